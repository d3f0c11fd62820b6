/-
  Plain laws of the reference: a sorted list of pairs. No program here.
-/
import Derived.Test.YtbfkhghegkiifaaPairsPlain
import Derived.Test.YtbfkhghegkiifaaTabOb
namespace Go.Proofs.Ytbfkhghegkiifaa
set_option linter.unusedVariables false
/-- the place of a key -/
structure AtR (L : List Pr) (k : ByteArray) (i : Nat) : Prop where
  le : i ≤ L.length
  lo : ∀ (j : Nat) (x : Pr), j < i → L[j]? = some x → ltS x.key k = true
  hi : ∀ x, L[i]? = some x → ltS x.key k = false
theorem AtR.hi' {L : List Pr} {k : ByteArray} {i : Nat} (h : AtR L k i) (hA : Asc L) : ∀ (j : Nat) (x : Pr), i ≤ j → L[j]? = some x → ltS x.key k = false := by
  intro j x hj hx
  by_cases e : j = i
  · subst e; exact h.hi x hx
  · have hjl := (List.getElem?_eq_some_iff.1 hx).1
    obtain ⟨y, hy⟩ : ∃ y, L[i]? = some y := ⟨_, List.getElem?_eq_getElem (by omega)⟩
    have h1 := h.hi y hy
    have h2 : ltS y.key x.key = true := by
      have := List.pairwise_iff_getElem.1 hA i j (by omega) hjl (by omega)
      rw [List.getElem?_eq_getElem (by omega)] at hy
      rw [List.getElem?_eq_getElem hjl] at hx
      cases hy; cases hx; exact this
    cases e3 : ltS x.key k with
    | false => rfl
    | true => have := ltS_trans h2 e3; rw [h1] at this; cases this
theorem AtR.split {L : List Pr} {k : ByteArray} {i : Nat} (h : AtR L k i) (hA : Asc L) : (∀ x ∈ L.take i, ltS x.key k = true) ∧ (∀ x ∈ L.drop i, ltS x.key k = false) := by
  refine ⟨fun x hx => ?_, fun x hx => ?_⟩
  · obtain ⟨j, hj⟩ := List.mem_iff_getElem?.1 hx
    rw [List.getElem?_take] at hj
    split at hj
    · rename_i hji; exact h.lo j x hji hj
    · cases hj
  · obtain ⟨j, hj⟩ := List.mem_iff_getElem?.1 hx
    rw [List.getElem?_drop] at hj
    exact h.hi' hA (i + j) x (by omega) hj
/-- the key is not there -/
theorem at_miss {L : List Pr} {k : ByteArray} {i : Nat} (h : AtR L k i) (hA : Asc L) (hne : ∀ x, L[i]? = some x → x.key ≠ k) : ∀ x ∈ L, x.key ≠ k := by
  intro x hx e
  obtain ⟨j, hj⟩ := List.mem_iff_getElem?.1 hx
  rcases Nat.lt_trichotomy j i with hlt | rfl | hgt
  · have := h.lo j x hlt hj; rw [e, ltS_irrefl] at this; cases this
  · exact hne x hj e
  · have hjl := (List.getElem?_eq_some_iff.1 hj).1
    obtain ⟨y, hy⟩ : ∃ y, L[i]? = some y := ⟨_, List.getElem?_eq_getElem (by omega)⟩
    have h2 : ltS y.key x.key = true := by
      have := List.pairwise_iff_getElem.1 hA i j (by omega) hjl (by omega)
      rw [List.getElem?_eq_getElem (by omega)] at hy
      rw [List.getElem?_eq_getElem hjl] at hj
      cases hy; cases hj; exact this
    rw [e, h.hi y hy] at h2; cases h2
theorem asc_ins {L : List Pr} {k : ByteArray} {e : Ent} {i : Nat} (h : AtR L k i) (hA : Asc L) (hne : ∀ x, L[i]? = some x → x.key ≠ k) :
    Asc (L.take i ++ ⟨k, e⟩ :: L.drop i) ∧ ∀ x, x ∈ L.take i ++ ⟨k, e⟩ :: L.drop i ↔ x = ⟨k, e⟩ ∨ (x.key ≠ k ∧ x ∈ L) := by
  have hno := at_miss h hA hne
  obtain ⟨s1, s2⟩ := h.split hA
  have hL : L.take i ++ L.drop i = L := List.take_append_drop i L
  refine ⟨?_, fun x => ?_⟩
  · rw [← hL] at hA
    obtain ⟨a1, a2, a3⟩ := List.pairwise_append.1 hA
    refine List.pairwise_append.2 ⟨a1, List.pairwise_cons.2 ⟨fun y hy => ?_, a2⟩, fun x hx y hy => ?_⟩
    · exact ltS_of_not (hno y (List.mem_of_mem_drop hy)) (s2 y hy)
    · rcases List.mem_cons.1 hy with rfl | hy
      · exact s1 x hx
      · exact a3 x hx y hy
  · rw [List.mem_append, List.mem_cons]
    constructor
    · rintro (hx | rfl | hx)
      · exact .inr ⟨hno x (List.mem_of_mem_take hx), List.mem_of_mem_take hx⟩
      · exact .inl rfl
      · exact .inr ⟨hno x (List.mem_of_mem_drop hx), List.mem_of_mem_drop hx⟩
    · rintro (rfl | ⟨_, hx⟩)
      · exact .inr (.inl rfl)
      · rw [← hL] at hx
        rcases List.mem_append.1 hx with hx | hx
        · exact .inl hx
        · exact .inr (.inr hx)
theorem asc_split {L : List Pr} {y : Pr} {i : Nat} (hA : Asc L) (hy : L[i]? = some y) : L = L.take i ++ y :: L.drop (i + 1) ∧ (∀ x ∈ L.take i, x.key ≠ y.key) ∧ (∀ x ∈ L.drop (i + 1), x.key ≠ y.key) := by
  have hil := (List.getElem?_eq_some_iff.1 hy).1
  have he : L[i] = y := (List.getElem?_eq_some_iff.1 hy).2
  have hL : L = L.take i ++ y :: L.drop (i + 1) := by
    conv => lhs; rw [← List.take_append_drop i L, List.drop_eq_getElem_cons hil, he]
  refine ⟨hL, ?_⟩
  rw [hL] at hA
  obtain ⟨a1, a2, a3⟩ := List.pairwise_append.1 hA
  obtain ⟨b1, b2⟩ := List.pairwise_cons.1 a2
  exact ⟨fun x hx => ltS_ne (a3 x hx y (by simp)), fun x hx => (ltS_ne (b1 x hx)).symm⟩
theorem asc_over {L : List Pr} {y : Pr} {e : Ent} {i : Nat} (hA : Asc L) (hy : L[i]? = some y) :
    Asc (L.set i ⟨y.key, e⟩) ∧ ∀ x, x ∈ L.set i ⟨y.key, e⟩ ↔ x = ⟨y.key, e⟩ ∨ (x.key ≠ y.key ∧ x ∈ L) := by
  obtain ⟨hL, n1, n2⟩ := asc_split hA hy
  have hil := (List.getElem?_eq_some_iff.1 hy).1
  have hS : L.set i ⟨y.key, e⟩ = L.take i ++ ⟨y.key, e⟩ :: L.drop (i + 1) := by
    rw [List.set_eq_take_append_cons_drop, if_pos hil]
  rw [hS]
  refine ⟨?_, fun x => ?_⟩
  · rw [hL] at hA
    obtain ⟨a1, a2, a3⟩ := List.pairwise_append.1 hA
    obtain ⟨b1, b2⟩ := List.pairwise_cons.1 a2
    refine List.pairwise_append.2 ⟨a1, List.pairwise_cons.2 ⟨fun z hz => b1 z hz, b2⟩, fun x hx z hz => ?_⟩
    rcases List.mem_cons.1 hz with rfl | hz
    · exact a3 x hx y (by simp)
    · exact a3 x hx z (by simp [hz])
  · rw [List.mem_append, List.mem_cons]
    constructor
    · rintro (hx | rfl | hx)
      · exact .inr ⟨n1 x hx, List.mem_of_mem_take hx⟩
      · exact .inl rfl
      · exact .inr ⟨n2 x hx, List.mem_of_mem_drop hx⟩
    · rintro (rfl | ⟨hne, hx⟩)
      · exact .inr (.inl rfl)
      · rw [hL] at hx
        rcases List.mem_append.1 hx with hx | hx
        · exact .inl hx
        · rcases List.mem_cons.1 hx with rfl | hx
          · exact absurd rfl hne
          · exact .inr (.inr hx)
theorem asc_del {L : List Pr} {y : Pr} {i : Nat} (hA : Asc L) (hy : L[i]? = some y) :
    Asc (L.take i ++ L.drop (i + 1)) ∧ ∀ x, x ∈ L.take i ++ L.drop (i + 1) ↔ (x.key ≠ y.key ∧ x ∈ L) := by
  obtain ⟨hL, n1, n2⟩ := asc_split hA hy
  refine ⟨?_, fun x => ?_⟩
  · rw [hL] at hA
    obtain ⟨a1, a2, a3⟩ := List.pairwise_append.1 hA
    obtain ⟨b1, b2⟩ := List.pairwise_cons.1 a2
    exact List.pairwise_append.2 ⟨a1, b2, fun x hx z hz => a3 x hx z (by simp [hz])⟩
  · rw [List.mem_append]
    constructor
    · rintro (hx | hx)
      · exact ⟨n1 x hx, List.mem_of_mem_take hx⟩
      · exact ⟨n2 x hx, List.mem_of_mem_drop hx⟩
    · rintro ⟨hne, hx⟩
      rw [hL] at hx
      rcases List.mem_append.1 hx with hx | hx
      · exact .inl hx
      · rcases List.mem_cons.1 hx with rfl | hx
        · exact absurd rfl hne
        · exact .inr hx
/-! the table and the list -/
structure Like (T : Tab) (L : List Pr) : Prop where
  asc : Asc L
  has : ∀ x : Pr, x ∈ L ↔ Has T x.key x.en
theorem Apart.nodup {l : List Pr} (h : Apart l) : l.Nodup := List.Pairwise.imp (fun h e => h (by rw [e])) h
theorem Like.perm {T : Tab} {L : List Pr} (h : Like T L) (hI : TI T) : L.Perm (prs T) := by
  refine (List.perm_ext_iff_of_nodup h.asc.apart.nodup (prs_apart hI).nodup).2 (fun x => ?_)
  rw [h.has, mem_prs]
theorem Like.tot {T : Tab} {L : List Pr} (h : Like T L) (hI : TI T) : T.tot = L.length := by
  rw [(h.perm hI).length_eq, prs_length hI]
  rfl
theorem Like.pairs {T : Tab} {L qs : List Pr} (h : Like T L) (hI : TI T) (hq : Asc qs) (hp : qs.Perm (prs T)) : qs = L := asc_perm hq h.asc (hp.trans (h.perm hI).symm)
theorem Like.set {T T' : Tab} {L L' : List Pr} {k : ByteArray} {e : Ent} (h : Like T L) (s : SetI T T' k e) (hA : Asc L') (hm : ∀ x, x ∈ L' ↔ x = ⟨k, e⟩ ∨ (x.key ≠ k ∧ x ∈ L)) : Like T' L' := by
  refine ⟨hA, fun x => ?_⟩
  rw [hm, h.has, s.has]
  constructor
  · rintro (rfl | ⟨h1, h2⟩)
    · exact .inl ⟨rfl, rfl⟩
    · exact .inr ⟨h1, h2⟩
  · rintro (⟨h1, h2⟩ | ⟨h1, h2⟩)
    · exact .inl (by cases x; simp at h1 h2; rw [h1, h2])
    · exact .inr ⟨h1, h2⟩
end Go.Proofs.Ytbfkhghegkiifaa
