/-
  Plain laws of the table: what its two lists of places keep from step to step.
-/
import Derived.Test.YtbfkhghegkiifaaTabPut
namespace Go.Proofs.Ytbfkhghegkiifaa
set_option linter.unusedVariables false
structure TI (T : Tab) : Prop where
  n3 : 3 ≤ T.nb
  n30 : T.nb ≤ 30
  nlen : T.now.length = 2 ^ T.nb
  inow : Inv (homeN T.nb) T.now
  snow : ∀ p ∈ T.now, p.st = 0 ∨ p.st = 1
  cnow : usedN T.now = T.nowLen
  iold : (T.old = [] ∧ T.at' = 0) ∨ (T.old.length = 2 ^ T.ob ∧ 1 ≤ T.ob ∧ T.ob ≤ 30 ∧ Inv (homeN T.ob) T.old ∧ ∃ (i : Nat) (p : Pl), T.old[i]? = some p ∧ p.st = 0)
  cold : usedN T.old = T.oldLen
  at0 : ∀ (i : Nat) (p : Pl), i < T.at' → T.old[i]? = some p → p.st ≠ 1
  disj : ∀ k e e', HasK T.now k e → ¬ HasK T.old k e'
  cap : 4 * (T.nowLen + T.oldLen) ≤ 3 * 2 ^ T.nb
  slack : T.oldLen + 8 * (T.nowLen + T.oldLen) ≤ 6 * 2 ^ T.nb
  ks : ∀ k e, HasK T.now k e ∨ HasK T.old k e → k.size ≤ 9223372036854775807
def Has (T : Tab) (k : ByteArray) (e : Ent) : Prop := HasK T.now k e ∨ HasK T.old k e
theorem TI.emp {T : Tab} (h : TI T) : ∃ (i : Nat) (p : Pl), T.now[i]? = some p ∧ p.st = 0 := by
  refine empty_of_used h.snow ?_
  have h1 := h.cap
  have h2 := h.cnow
  have h3 := h.nlen
  have hp : 0 < 2 ^ T.nb := Nat.pow_pos (by omega)
  omega
theorem TI.len_le {T : Tab} (h : TI T) : T.nowLen + T.oldLen ≤ 1073741824 := by
  have := h.cap
  have := pow_le30 h.n30
  omega
/-- an unused place of the old ones is passed by -/
theorem TI.skip {T : Tab} (h : TI T) (hne : T.old ≠ []) {p : Pl} (hp : T.old[T.at']? = some p) (h1 : p.st ≠ 1) : TI { T with at' := T.at' + 1 } := by
  refine ⟨h.n3, h.n30, h.nlen, h.inow, h.snow, h.cnow, ?_, h.cold, fun i q hi hq => ?_, h.disj, h.cap, h.slack, h.ks⟩
  · exact .inr (h.iold.resolve_left (fun e => hne e.1))
  · by_cases e : i = T.at'
    · subst e; rw [hp] at hq; cases hq; exact h1
    · exact h.at0 i q (by simp only at hi; omega) hq
/-- what a place laid into the present ones gives -/
theorem put_has {T : Tab} (h : TI T) {i : Nat} {b : Bool} {k : ByteArray} {e : Ent} (f : FindR T.now (homeN T.nb k) k i b) (k' : ByteArray) (e' : Ent) : HasK (T.now.set i ⟨1, k, e⟩) k' e' ↔ (k' = k ∧ e' = e) ∨ (k' ≠ k ∧ HasK T.now k' e') := by
  have hil : i < T.now.length := by
    cases b with
    | true => obtain ⟨p, hp, _⟩ := find_true f; exact (List.getElem?_eq_some_iff.1 hp).1
    | false => obtain ⟨p, hp, _⟩ := find_false f; exact (List.getElem?_eq_some_iff.1 hp).1
  rw [has_set hil]
  constructor
  · rintro (⟨_, h1, h2⟩ | ⟨j, p, hji, hj, hp, hk, he⟩)
    · exact .inl ⟨h1.symm, h2.symm⟩
    · refine .inr ⟨fun e0 => ?_, j, p, hj, hp, hk, he⟩
      cases b with
      | true =>
        obtain ⟨q, hq, hq1, hqk⟩ := find_true f
        exact hji (h.inow.uniq j i p q hj hq hp hq1 (by rw [hk, hqk, e0]))
      | false => exact find_none h.inow f p.en ⟨j, p, hj, hp, hk.trans e0, rfl⟩
  · rintro (⟨rfl, rfl⟩ | ⟨hne, j, p, hj, hp, hk, he⟩)
    · exact .inl ⟨rfl, rfl, rfl⟩
    · refine .inr ⟨j, p, fun e0 => ?_, hj, hp, hk, he⟩
      subst e0
      cases b with
      | true =>
        obtain ⟨q, hq, hq1, hqk⟩ := find_true f
        rw [hj] at hq; cases hq
        exact hne (hk.symm.trans hqk)
      | false =>
        obtain ⟨q, hq, hq1⟩ := find_false f
        rw [hj] at hq; cases hq
        omega
theorem put_used {l : List Pl} {h i : Nat} {b : Bool} {k : ByteArray} {e : Ent} (f : FindR l h k i b) : usedN (l.set i ⟨1, k, e⟩) = usedN l + (if b = true then 0 else 1) := by
  cases b with
  | true =>
    obtain ⟨p, hp, h1, _⟩ := find_true f
    have := used_set (q := ⟨1, k, e⟩) hp
    rw [if_pos h1, if_pos rfl] at this
    simp; omega
  | false =>
    obtain ⟨p, hp, h1⟩ := find_false f
    have := used_set (q := ⟨1, k, e⟩) hp
    rw [if_neg (by omega), if_pos rfl] at this
    simp; omega
theorem put_inv {T : Tab} (h : TI T) {i : Nat} {b : Bool} {k : ByteArray} {e : Ent} (f : FindR T.now (homeN T.nb k) k i b) : Inv (homeN T.nb) (T.now.set i ⟨1, k, e⟩) := by
  cases b with
  | true => exact h.inow.put_old f
  | false => exact h.inow.put_new f
theorem put_st {T : Tab} (h : TI T) (i : Nat) (k : ByteArray) (e : Ent) : ∀ p ∈ T.now.set i ⟨1, k, e⟩, p.st = 0 ∨ p.st = 1 := by
  intro p hp
  rcases List.mem_or_eq_of_mem_set hp with h1 | h1
  · exact h.snow p h1
  · rw [h1]; exact .inr rfl
/-- the old place at 'i' is marked gone -/
def Tab.goneAt (T : Tab) (i : Nat) : Tab := { T with old := T.old.set i pGone, oldLen := T.oldLen - 1 }
theorem gone_has {l : List Pl} {home : ByteArray → Nat} (hI : Inv home l) {i : Nat} {p : Pl} (hp : l[i]? = some p) (h1 : p.st = 1) (k' : ByteArray) (e' : Ent) : HasK (l.set i pGone) k' e' ↔ k' ≠ p.key ∧ HasK l k' e' := by
  have hil := (List.getElem?_eq_some_iff.1 hp).1
  rw [has_set hil, or_iff_right (by simp [pGone])]
  constructor
  · rintro ⟨j, q, hji, hj, hq, hk, he⟩
    exact ⟨fun e0 => hji (hI.uniq j i q p hj hp hq h1 (hk.trans e0)), j, q, hj, hq, hk, he⟩
  · rintro ⟨hne, j, q, hj, hq, hk, he⟩
    exact ⟨j, q, fun e0 => by subst e0; rw [hp] at hj; cases hj; exact hne hk.symm, hj, hq, hk, he⟩
theorem gone_used {l : List Pl} {i : Nat} {p : Pl} (hp : l[i]? = some p) (h1 : p.st = 1) : usedN (l.set i pGone) + 1 = usedN l := by
  have := used_set (q := pGone) hp
  rw [if_pos h1, if_neg (by simp [pGone])] at this
  omega
theorem TI.old_inv {T : Tab} (h : TI T) {i : Nat} {p : Pl} (hp : T.old[i]? = some p) : T.old.length = 2 ^ T.ob ∧ 1 ≤ T.ob ∧ T.ob ≤ 30 ∧ Inv (homeN T.ob) T.old ∧ ∃ (i : Nat) (p : Pl), T.old[i]? = some p ∧ p.st = 0 := by
  refine h.iold.resolve_left (fun e => ?_)
  rw [e.1] at hp
  simp at hp
theorem TI.gone {T : Tab} (h : TI T) {i : Nat} {p : Pl} (hp : T.old[i]? = some p) (h1 : p.st = 1) : TI (T.goneAt i) ∧ (T.goneAt i).oldLen + 1 = T.oldLen ∧ ∀ k e, HasK (T.goneAt i).old k e ↔ k ≠ p.key ∧ HasK T.old k e := by
  obtain ⟨o1, o2, o3, o4, j, q, hj, hq⟩ := h.old_inv hp
  have hil := (List.getElem?_eq_some_iff.1 hp).1
  have hu := gone_used hp h1
  have hh := gone_has o4 hp h1
  have hc := h.cold
  have hcap := h.cap
  have hsl := h.slack
  have e1 : (T.goneAt i).oldLen + 1 = T.oldLen := by unfold Tab.goneAt; simp only; omega
  refine ⟨⟨h.n3, h.n30, h.nlen, h.inow, h.snow, h.cnow, .inr ⟨by unfold Tab.goneAt; simp only [List.length_set]; exact o1, o2, o3, o4.gone hil, ?_⟩, ?_, ?_, ?_, ?_, ?_, ?_⟩, e1, hh⟩
  · refine ⟨j, q, ?_, hq⟩
    unfold Tab.goneAt
    simp only
    rw [List.getElem?_set, if_neg (fun e => by subst e; rw [hp] at hj; cases hj; omega)]
    exact hj
  · unfold Tab.goneAt at e1 ⊢; simp only at e1 ⊢; omega
  · intro a r ha hr
    unfold Tab.goneAt at ha hr
    simp only at ha hr
    rw [List.getElem?_set] at hr
    by_cases ei : i = a
    · rw [if_pos ei, if_pos hil] at hr
      cases hr; simp [pGone]
    · rw [if_neg ei] at hr
      exact h.at0 a r ha hr
  · intro k e e' hk hk'
    exact h.disj k e e' hk ((hh k e').1 hk').2
  · show 4 * (T.nowLen + (T.goneAt i).oldLen) ≤ 3 * 2 ^ T.nb
    omega
  · show (T.goneAt i).oldLen + 8 * (T.nowLen + (T.goneAt i).oldLen) ≤ 6 * 2 ^ T.nb
    omega
  · intro k e hk
    exact h.ks k e (hk.imp id (fun hk => ((hh k e).1 hk).2))
/-- an entry moves from the old places to the present ones -/
def Tab.moved (T : Tab) (i : Nat) (p : Pl) : Tab := { T with now := T.now.set i ⟨1, p.key, p.en⟩, nowLen := T.nowLen + 1, old := T.old.set T.at' pGone, oldLen := T.oldLen - 1, work := T.work + 1, at' := T.at' + 1 }
theorem TI.moved {T : Tab} (h : TI T) {i : Nat} {b : Bool} {p : Pl} (hp : T.old[T.at']? = some p) (h1 : p.st = 1) (f : FindR T.now (homeN T.nb p.key) p.key i b) :
    b = false ∧ TI (T.moved i p) ∧ (T.moved i p).oldLen + 1 = T.oldLen ∧ ∀ k e, Has (T.moved i p) k e ↔ Has T k e := by
  have hb : b = false := by
    cases b with
    | false => rfl
    | true =>
      obtain ⟨q, hq, hq1, hqk⟩ := find_true f
      exact absurd ⟨T.at', p, hp, h1, rfl, rfl⟩ (h.disj p.key q.en p.en ⟨i, q, hq, hq1, hqk, rfl⟩)
  subst hb
  obtain ⟨g1, g2, g3⟩ := h.gone hp h1
  have hput := put_has h (e := p.en) f
  have hu := put_used (e := p.en) f
  have hcn := h.cnow
  have hgo : HasK T.old p.key p.en := ⟨T.at', p, hp, h1, rfl, rfl⟩
  have hold : ∀ k e, HasK T.old k e → k = p.key → e = p.en := fun k e ⟨j, q, hj, hq, hk, he⟩ hkk => by
    obtain ⟨_, _, _, o4, _⟩ := h.old_inv hp
    have := o4.uniq j T.at' q p hj hp hq h1 (hk.trans hkk)
    subst this
    rw [hp] at hj; cases hj; exact he.symm
  have e2 : (T.moved i p).oldLen = (T.goneAt T.at').oldLen := rfl
  have e3 : (T.moved i p).nowLen = T.nowLen + 1 := rfl
  have e4 : (T.moved i p).nb = T.nb := rfl
  have hcap := h.cap
  have hsl := h.slack
  refine ⟨rfl, ⟨h.n3, h.n30, by show (T.now.set i _).length = _; rw [List.length_set]; exact h.nlen, put_inv h f, put_st h i _ _, ?_, ?_, g1.cold, ?_, ?_, ?_, ?_, ?_⟩, g2, fun k e => ?_⟩
  · show usedN (T.now.set i _) = T.nowLen + 1
    rw [hu]; simp; omega
  · rcases g1.iold with ⟨e, _⟩ | e
    · exfalso
      have : (T.old.set T.at' pGone).length = 0 := by rw [show T.old.set T.at' pGone = [] from e]; rfl
      rw [List.length_set] at this
      have := (List.getElem?_eq_some_iff.1 hp).1
      omega
    · exact .inr e
  · intro a r ha hr
    have hr' : (T.goneAt T.at').old[a]? = some r := hr
    by_cases ea : a = T.at'
    · subst ea
      unfold Tab.goneAt at hr'
      simp only at hr'
      rw [List.getElem?_set, if_pos rfl] at hr'
      split at hr'
      · cases hr'; simp [pGone]
      · cases hr'
    · exact g1.at0 a r (by have : a < T.at' + 1 := ha; show a < T.at'; omega) hr'
  · intro k e e' hk hk'
    have hk2 := (g3 k e').1 hk'
    rcases (hput k e).1 hk with ⟨rfl, _⟩ | ⟨_, hk3⟩
    · exact hk2.1 rfl
    · exact h.disj k e e' hk3 hk2.2
  · rw [e2, e3, e4]; omega
  · rw [e2, e3, e4]; omega
  · intro k e hk
    rcases hk with hk | hk
    · rcases (hput k e).1 hk with ⟨rfl, rfl⟩ | ⟨_, hk3⟩
      · exact h.ks _ _ (.inr hgo)
      · exact h.ks k e (.inl hk3)
    · exact h.ks k e (.inr ((g3 k e).1 hk).2)
  · constructor
    · rintro (hk | hk)
      · rcases (hput k e).1 hk with ⟨rfl, rfl⟩ | ⟨_, hk3⟩
        · exact .inr hgo
        · exact .inl hk3
      · exact .inr ((g3 k e).1 hk).2
    · rintro (hk | hk)
      · refine .inl ((hput k e).2 (.inr ⟨fun e0 => ?_, hk⟩))
        subst e0
        exact h.disj _ _ _ hk hgo
      · by_cases e0 : k = p.key
        · exact .inl ((hput k e).2 (.inl ⟨e0, hold k e hk e0⟩))
        · exact .inr ((g3 k e).2 ⟨e0, hk⟩)
/-- the old places are given up when nothing is left in them -/
def Tab.noOld (T : Tab) : Tab := { T with ob := 0, old := [], at' := 0 }
theorem TI.noOld {T : Tab} (h : TI T) (h0 : T.oldLen = 0) : TI T.noOld ∧ ∀ k e, Has T.noOld k e ↔ Has T k e := by
  have hz := used_zero (h.cold.trans h0)
  have hnil : ∀ k e, ¬ HasK ([] : List Pl) k e := fun k e ⟨i, p, hp, _⟩ => by simp at hp
  refine ⟨⟨h.n3, h.n30, h.nlen, h.inow, h.snow, h.cnow, .inl ⟨rfl, rfl⟩, by show usedN [] = T.oldLen; rw [h0]; rfl, fun i p hi => by simp [Tab.noOld] at hi, fun k e e' hk hk' => hnil k e' hk', h.cap, h.slack, fun k e hk => h.ks k e (hk.imp id (fun hk => absurd hk (hnil k e)))⟩, fun k e => ?_⟩
  exact ⟨fun hk => hk.imp id (fun hk => absurd hk (hnil k e)), fun hk => .inl (hk.resolve_right (hz k e))⟩
end Go.Proofs.Ytbfkhghegkiifaa
