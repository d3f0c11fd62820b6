/-
  Plain laws of hash places with linear probing: find, put, remove. No program here.
-/
import Derived.Test.YtbfkhghegkiifaaBase
namespace Go.Proofs.Ytbfkhghegkiifaa
set_option linter.unusedVariables false
structure Ent where
  seq : Int
  off : Int
  len : Int
  exp : Int
  hit : Bool
/-- a place: state (0 empty, 1 used, 2 gone), key, entry -/
structure Pl where
  st : Nat
  key : ByteArray
  en : Ent
def e0 : Ent := ⟨0, 0, 0, 0, false⟩
def pEmpty : Pl := ⟨0, ByteArray.empty, e0⟩
def pGone : Pl := ⟨2, ByteArray.empty, e0⟩
def dist (n h i : Nat) : Nat := if h ≤ i then i - h else i + n - h
def pos (n h t : Nat) : Nat := if h + t < n then h + t else h + t - n
def nxt (n i : Nat) : Nat := if i + 1 < n then i + 1 else 0
theorem dist_cases (n h i : Nat) : (h ≤ i ∧ dist n h i = i - h) ∨ (i < h ∧ dist n h i = i + n - h) := by unfold dist; split <;> omega
theorem nxt_cases (n i : Nat) : (i + 1 < n ∧ nxt n i = i + 1) ∨ (n ≤ i + 1 ∧ nxt n i = 0) := by unfold nxt; split <;> omega
theorem pos_lt {n h t : Nat} (hh : h < n) (ht : t ≤ n) : pos n h t < n := by unfold pos; split <;> omega
theorem dist_lt {n h i : Nat} (hh : h < n) (hi : i < n) : dist n h i < n := by unfold dist; split <;> omega
theorem pos_dist {n h i : Nat} (hh : h < n) (hi : i < n) : pos n h (dist n h i) = i := by unfold pos dist; split <;> split <;> omega
theorem dist_pos {n h t : Nat} (hh : h < n) (ht : t < n) : dist n h (pos n h t) = t := by unfold pos dist; split <;> split <;> omega
theorem pos_zero {n h : Nat} (hh : h < n) : pos n h 0 = h := by unfold pos; split <;> omega
theorem nxt_pos {n h t : Nat} (hh : h < n) (ht : t + 1 < n) : nxt n (pos n h t) = pos n h (t + 1) := by unfold nxt pos; split <;> split <;> split <;> omega
theorem nxt_lt {n i : Nat} (hi : i < n) : nxt n i < n := by unfold nxt; split <;> omega
/-- what the search for a key finds -/
def FindR (l : List Pl) (h : Nat) (k : ByteArray) (i : Nat) (b : Bool) : Prop :=
  ∃ t, t < l.length ∧ i = pos l.length h t ∧ (∀ t', t' < t → ∃ p, l[pos l.length h t']? = some p ∧ p.st ≠ 0 ∧ ¬ (p.st = 1 ∧ p.key = k)) ∧
    ∃ p, l[i]? = some p ∧ (b = true ∧ p.st = 1 ∧ p.key = k ∨ b = false ∧ p.st = 0)
structure Inv (home : ByteArray → Nat) (l : List Pl) : Prop where
  hl : ∀ k, home k < l.length
  reach : ∀ (i : Nat) (p : Pl), l[i]? = some p → p.st = 1 → ∀ t, t < dist l.length (home p.key) i → ∃ q, l[pos l.length (home p.key) t]? = some q ∧ q.st ≠ 0
  uniq : ∀ (i j : Nat) (p q : Pl), l[i]? = some p → l[j]? = some q → p.st = 1 → q.st = 1 → p.key = q.key → i = j
def HasK (l : List Pl) (k : ByteArray) (e : Ent) : Prop := ∃ (i : Nat) (p : Pl), l[i]? = some p ∧ p.st = 1 ∧ p.key = k ∧ p.en = e
def usedN (l : List Pl) : Nat := l.countP (fun p => p.st == 1)
theorem find_true {l : List Pl} {h i : Nat} {k : ByteArray} (f : FindR l h k i true) : ∃ p, l[i]? = some p ∧ p.st = 1 ∧ p.key = k := by
  obtain ⟨_, _, _, _, p, h1, h2 | h2⟩ := f
  · exact ⟨p, h1, h2.2.1, h2.2.2⟩
  · cases h2.1
theorem find_false {l : List Pl} {h i : Nat} {k : ByteArray} (f : FindR l h k i false) : ∃ p, l[i]? = some p ∧ p.st = 0 := by
  obtain ⟨_, _, _, _, p, h1, h2 | h2⟩ := f
  · cases h2.1
  · exact ⟨p, h1, h2.2⟩
theorem find_none {home : ByteArray → Nat} {l : List Pl} {i : Nat} {k : ByteArray} (hI : Inv home l) (f : FindR l (home k) k i false) : ∀ e, ¬ HasK l k e := by
  rintro e ⟨j, p, hj, hp, rfl, _⟩
  obtain ⟨t, ht, hi, hb, q, hq, h2 | h2⟩ := f
  · cases h2.1
  have hjl := (List.getElem?_eq_some_iff.1 hj).1
  have hh := hI.hl p.key
  have hd := dist_lt hh hjl
  rcases Nat.lt_trichotomy t (dist l.length (home p.key) j) with hlt | heq | hgt
  · obtain ⟨r, hr, hr0⟩ := hI.reach j p hj hp t hlt
    rw [← hi, hq] at hr
    cases hr
    exact hr0 h2.2
  · rw [hi, heq, pos_dist hh hjl, hj] at hq
    cases hq
    omega
  · obtain ⟨r, hr, hr0, hr1⟩ := hb _ hgt
    rw [pos_dist hh hjl, hj] at hr
    cases hr
    exact hr1 ⟨hp, rfl⟩
/-- an entry is laid into the empty place that find found -/
theorem Inv.put_new {home : ByteArray → Nat} {l : List Pl} {i : Nat} {k : ByteArray} {e : Ent} (hI : Inv home l) (f : FindR l (home k) k i false) : Inv home (l.set i ⟨1, k, e⟩) := by
  have hnone := find_none hI f
  obtain ⟨t, ht, hi, hb, q, hq, h2 | h2⟩ := f
  · cases h2.1
  have hil := (List.getElem?_eq_some_iff.1 hq).1
  have hh := hI.hl k
  have g : ∀ j, (l.set i ⟨1, k, e⟩)[j]? = if i = j then some ⟨1, k, e⟩ else l[j]? := fun j => by
    rw [List.getElem?_set]; split
    · subst_vars; simp
    · rfl
  refine ⟨fun k' => by rw [List.length_set]; exact hI.hl k', fun j p hj hp t' ht' => ?_, fun j j' p p' hj hj' hp hp' hkk => ?_⟩
  · rw [List.length_set] at ht' ⊢
    rw [g] at hj ⊢
    by_cases hij : i = pos l.length (home p.key) t'
    · rw [if_pos hij]; exact ⟨_, rfl, by simp⟩
    · rw [if_neg hij]
      by_cases hji : i = j
      · rw [if_pos hji] at hj
        cases hj
        simp only at ht' hij ⊢
        subst hji
        rw [hi, dist_pos hh ht] at ht'
        obtain ⟨r, hr, hr0, _⟩ := hb t' ht'
        exact ⟨r, hr, hr0⟩
      · rw [if_neg hji] at hj
        exact hI.reach j p hj hp t' ht'
  · rw [g] at hj hj'
    by_cases h1 : i = j <;> by_cases h2 : i = j'
    · omega
    · rw [if_pos h1] at hj; rw [if_neg h2] at hj'
      cases hj
      exact absurd ⟨j', p', hj', hp', hkk.symm, rfl⟩ (hnone p'.en)
    · rw [if_neg h1] at hj; rw [if_pos h2] at hj'
      cases hj'
      exact absurd ⟨j, p, hj, hp, hkk, rfl⟩ (hnone p.en)
    · rw [if_neg h1] at hj; rw [if_neg h2] at hj'
      exact hI.uniq j j' p p' hj hj' hp hp' hkk
/-- an entry is laid over the one that find found -/
theorem Inv.put_old {home : ByteArray → Nat} {l : List Pl} {i : Nat} {k : ByteArray} {e : Ent} (hI : Inv home l) (f : FindR l (home k) k i true) : Inv home (l.set i ⟨1, k, e⟩) := by
  obtain ⟨q, hq, hq1, hqk⟩ := find_true f
  have hil := (List.getElem?_eq_some_iff.1 hq).1
  have g : ∀ j, (l.set i ⟨1, k, e⟩)[j]? = if i = j then some ⟨1, k, e⟩ else l[j]? := fun j => by
    rw [List.getElem?_set]; split
    · subst_vars; simp
    · rfl
  refine ⟨fun k' => by rw [List.length_set]; exact hI.hl k', fun j p hj hp t' ht' => ?_, fun j j' p p' hj hj' hp hp' hkk => ?_⟩
  · rw [List.length_set] at ht' ⊢
    rw [g] at hj ⊢
    have hr : ∃ r, l[pos l.length (home p.key) t']? = some r ∧ r.st ≠ 0 := by
      by_cases hji : i = j
      · rw [if_pos hji] at hj
        cases hj
        simp only at ht' ⊢
        subst hji
        rw [← hqk] at ht' ⊢
        exact hI.reach i q hq hq1 t' ht'
      · rw [if_neg hji] at hj
        exact hI.reach j p hj hp t' ht'
    split
    · exact ⟨_, rfl, by simp⟩
    · exact hr
  · rw [g] at hj hj'
    by_cases h1 : i = j <;> by_cases h2 : i = j'
    · omega
    · rw [if_pos h1] at hj; rw [if_neg h2] at hj'
      cases hj
      exact absurd (hI.uniq i j' q p' hq hj' hq1 hp' (hqk.trans hkk)) h2
    · rw [if_neg h1] at hj; rw [if_pos h2] at hj'
      cases hj'
      exact absurd (hI.uniq i j q p hq hj hq1 hp (hqk.trans hkk.symm)) h1
    · rw [if_neg h1] at hj; rw [if_neg h2] at hj'
      exact hI.uniq j j' p p' hj hj' hp hp' hkk
/-- a used place is marked gone -/
theorem Inv.gone {home : ByteArray → Nat} {l : List Pl} {i : Nat} (hI : Inv home l) (hi : i < l.length) : Inv home (l.set i pGone) := by
  have g : ∀ j, (l.set i pGone)[j]? = if i = j then some pGone else l[j]? := fun j => by
    rw [List.getElem?_set]; split
    · subst_vars; simp
    · rfl
  refine ⟨fun k' => by rw [List.length_set]; exact hI.hl k', fun j p hj hp t' ht' => ?_, fun j j' p p' hj hj' hp hp' hkk => ?_⟩
  · rw [List.length_set] at ht' ⊢
    rw [g] at hj ⊢
    by_cases hji : i = j
    · rw [if_pos hji] at hj
      cases hj
      simp [pGone] at hp
    · rw [if_neg hji] at hj
      split
      · exact ⟨_, rfl, by simp [pGone]⟩
      · exact hI.reach j p hj hp t' ht'
  · rw [g] at hj hj'
    by_cases h1 : i = j
    · rw [if_pos h1] at hj; cases hj; simp [pGone] at hp
    · by_cases h2 : i = j'
      · rw [if_pos h2] at hj'; cases hj'; simp [pGone] at hp'
      · rw [if_neg h1] at hj; rw [if_neg h2] at hj'
        exact hI.uniq j j' p p' hj hj' hp hp' hkk
/-! what the places hold -/
theorem has_set {l : List Pl} {i : Nat} {q : Pl} {k' : ByteArray} {e' : Ent} (hi : i < l.length) : HasK (l.set i q) k' e' ↔ (q.st = 1 ∧ q.key = k' ∧ q.en = e') ∨ ∃ (j : Nat) (p : Pl), j ≠ i ∧ l[j]? = some p ∧ p.st = 1 ∧ p.key = k' ∧ p.en = e' := by
  have g : ∀ j, (l.set i q)[j]? = if i = j then some q else l[j]? := fun j => by
    rw [List.getElem?_set]; split
    · subst_vars; simp
    · rfl
  constructor
  · rintro ⟨j, p, hj, h⟩
    rw [g] at hj
    by_cases hij : i = j
    · rw [if_pos hij] at hj; cases hj; exact .inl h
    · rw [if_neg hij] at hj; exact .inr ⟨j, p, Ne.symm hij, hj, h⟩
  · rintro (h | ⟨j, p, hne, hj, h⟩)
    · exact ⟨i, q, by rw [g, if_pos rfl], h⟩
    · exact ⟨j, p, by rw [g, if_neg (Ne.symm hne)]; exact hj, h⟩
theorem used_set {l : List Pl} {i : Nat} {p q : Pl} (hp : l[i]? = some p) : usedN (l.set i q) + (if p.st = 1 then 1 else 0) = usedN l + (if q.st = 1 then 1 else 0) := by
  unfold usedN
  induction l generalizing i with
  | nil => simp at hp
  | cons x l ih =>
    cases i with
    | zero =>
      simp at hp; subst hp
      rw [List.set_cons_zero, List.countP_cons, List.countP_cons]
      simp only [beq_iff_eq]
      omega
    | succ i =>
      have := ih (by simpa using hp)
      rw [List.set_cons_succ, List.countP_cons, List.countP_cons]
      omega
theorem used_zero {l : List Pl} (h : usedN l = 0) : ∀ k e, ¬ HasK l k e := by
  rintro k e ⟨i, p, hp, h1, _⟩
  unfold usedN at h
  rw [List.countP_eq_zero] at h
  exact h p (List.mem_of_getElem? hp) (by simp [h1])
theorem used_le (l : List Pl) : usedN l ≤ l.length := List.countP_le_length
/-- states 0 and 1 alone: fewer used than places: one is empty -/
theorem empty_of_used {l : List Pl} (hs : ∀ p ∈ l, p.st = 0 ∨ p.st = 1) (hu : usedN l < l.length) : ∃ (i : Nat) (p : Pl), l[i]? = some p ∧ p.st = 0 := by
  rcases Classical.em (∃ p ∈ l, p.st = 0) with ⟨p, hp, h0⟩ | hno
  · obtain ⟨i, hi, e⟩ := List.getElem_of_mem hp
    exact ⟨i, p, by rw [List.getElem?_eq_getElem hi, e], h0⟩
  · exfalso
    have : usedN l = l.length := by
      unfold usedN
      rw [List.countP_eq_length]
      intro p hp
      rcases hs p hp with h | h
      · exact absurd ⟨p, hp, h⟩ hno
      · simp [h]
    omega
/-! removal: the hole moves on -/
/-- in the midst of remove: the hole lies at i, the scan has come to k -/
structure RemI (home : ByteArray → Nat) (l0 : List Pl) (i0 : Nat) (l : List Pl) (i k : Nat) : Prop where
  len : l.length = l0.length
  il : i < l.length
  kl : k < l.length
  ne : i ≠ k
  hole : ∃ p, l[i]? = some p ∧ p.st = 1
  reach : ∀ (j : Nat) (p : Pl), j ≠ i → l[j]? = some p → p.st = 1 → ∀ t, t < dist l.length (home p.key) j → ∃ q, l[pos l.length (home p.key) t]? = some q ∧ q.st ≠ 0
  uniq : ∀ (j j' : Nat) (p q : Pl), j ≠ i → j' ≠ i → l[j]? = some p → l[j']? = some q → p.st = 1 → q.st = 1 → p.key = q.key → j = j'
  scan : ∀ (j : Nat) (p : Pl), l[j]? = some p → p.st = 1 → 0 < dist l.length i j → dist l.length i j < dist l.length i k → dist l.length (home p.key) j < dist l.length i j
  same : ∀ (ke : ByteArray) (e : Ent), (∃ (j : Nat) (p : Pl), j ≠ i ∧ l[j]? = some p ∧ p.st = 1 ∧ p.key = ke ∧ p.en = e) ↔ (∃ (j : Nat) (p : Pl), j ≠ i0 ∧ l0[j]? = some p ∧ p.st = 1 ∧ p.key = ke ∧ p.en = e)
  used : usedN l = usedN l0
  full : ∀ (j : Nat) (p : Pl), l[j]? = some p → (p.st = 0 ↔ ∃ q, l0[j]? = some q ∧ q.st = 0)
theorem used_swap {l : List Pl} {i k : Nat} {p q : Pl} (hp : l[i]? = some p) (hq : l[k]? = some q) (h1 : p.st = 1) (h2 : q.st = 1) : usedN (l.set i q) = usedN l := by
  have := used_set (q := q) hp
  rw [if_pos h1, if_pos h2] at this
  omega
theorem rem_start {home : ByteArray → Nat} {l : List Pl} {i : Nat} {p : Pl} (hI : Inv home l) (hp : l[i]? = some p) (h1 : p.st = 1) (he : ∃ (j : Nat) (q : Pl), l[j]? = some q ∧ q.st = 0) : RemI home l i l i (nxt l.length i) := by
  have hi := (List.getElem?_eq_some_iff.1 hp).1
  have hne : i ≠ nxt l.length i := by
    obtain ⟨j, q, hj, hq⟩ := he
    have hjl := (List.getElem?_eq_some_iff.1 hj).1
    have : j ≠ i := fun e => by subst e; rw [hp] at hj; cases hj; omega
    unfold nxt; split <;> omega
  refine ⟨rfl, hi, nxt_lt hi, hne, ⟨p, hp, h1⟩, fun j q _ => hI.reach j q, fun j j' q q' _ _ => hI.uniq j j' q q', fun j q hj hq h0 hlt => ?_, fun _ _ => Iff.rfl, rfl, fun j q hj => ?_⟩
  · exfalso
    have hjl := (List.getElem?_eq_some_iff.1 hj).1
    have d1 := dist_cases l.length i j
    have d2 := dist_cases l.length i (nxt l.length i)
    have d3 := nxt_cases l.length i
    omega
  · rw [hj]; simp
/-- the element at k stays: the hole does not lie between its home and its place -/
theorem rem_stay {home : ByteArray → Nat} {l0 l : List Pl} {i0 i k : Nat} {p : Pl} (h : RemI home l0 i0 l i k) (hp : l[k]? = some p) (h1 : p.st = 1) (hd : dist l.length (home p.key) k < dist l.length i k) (he : nxt l.length k ≠ i) : RemI home l0 i0 l i (nxt l.length k) := by
  obtain ⟨a1, a2, a3, a4, a5, a6, a7, a8, a9, a10, a11⟩ := h
  refine ⟨a1, a2, nxt_lt a3, Ne.symm he, a5, a6, a7, fun j q hj hq h0 hlt => ?_, a9, a10, a11⟩
  have hjl := (List.getElem?_eq_some_iff.1 hj).1
  by_cases hjk : j = k
  · subst hjk; rw [hp] at hj; cases hj; exact hd
  · refine a8 j q hj hq h0 ?_
    have d1 := dist_cases l.length i j
    have d2 := dist_cases l.length i (nxt l.length k)
    have d3 := dist_cases l.length i k
    have d4 := nxt_cases l.length k
    omega
/-- the element at k moves to the hole -/
theorem rem_move {home : ByteArray → Nat} {l0 l : List Pl} {i0 i k : Nat} {p : Pl} (h : RemI home l0 i0 l i k) (hp : l[k]? = some p) (h1 : p.st = 1) (hh : home p.key < l.length) (hd : dist l.length i k ≤ dist l.length (home p.key) k) (he : nxt l.length k ≠ k) : RemI home l0 i0 (l.set i p) k (nxt l.length k) := by
  obtain ⟨a1, a2, a3, a4, ⟨ph, hph, hph1⟩, a6, a7, a8, a9, a10, a11⟩ := h
  have g : ∀ j, (l.set i p)[j]? = if i = j then some p else l[j]? := fun j => by
    rw [List.getElem?_set]; split
    · subst_vars; simp
    · rfl
  refine ⟨by rw [List.length_set]; exact a1, by rw [List.length_set]; exact a3, by rw [List.length_set]; exact nxt_lt a3, Ne.symm he, ⟨p, by rw [g, if_neg a4]; exact hp, h1⟩, fun j q hjk hj hq t ht => ?_, fun j j' q q' hjk hjk' hj hj' hq hq' hkk => ?_, fun j q hj hq h0 hlt => ?_, fun ke e => ?_, ?_, fun j q hj => ?_⟩
  · rw [List.length_set] at ht ⊢
    rw [g] at hj ⊢
    have hr : ∃ r, l[pos l.length (home q.key) t]? = some r ∧ r.st ≠ 0 := by
      by_cases hij : i = j
      · rw [if_pos hij] at hj
        cases hj
        subst hij
        refine a6 k p (Ne.symm a4) hp hq t ?_
        have d1 := dist_cases l.length i k
        have d2 := dist_cases l.length (home p.key) k
        have d3 := dist_cases l.length (home p.key) i
        omega
      · rw [if_neg hij] at hj
        exact a6 j q (Ne.symm hij) hj hq t ht
    split
    · exact ⟨_, rfl, by omega⟩
    · exact hr
  · rw [g] at hj hj'
    by_cases x1 : i = j <;> by_cases x2 : i = j'
    · omega
    · rw [if_pos x1] at hj; rw [if_neg x2] at hj'
      cases hj
      exact absurd (a7 k j' p q' (Ne.symm a4) (Ne.symm x2) hp hj' hq hq' hkk) (Ne.symm hjk')
    · rw [if_neg x1] at hj; rw [if_pos x2] at hj'
      cases hj'
      exact absurd (a7 j k q p (Ne.symm x1) (Ne.symm a4) hj hp hq hq' hkk) hjk
    · rw [if_neg x1] at hj; rw [if_neg x2] at hj'
      exact a7 j j' q q' (Ne.symm x1) (Ne.symm x2) hj hj' hq hq' hkk
  · exfalso
    rw [List.length_set] at h0 hlt
    have hjl := (List.getElem?_eq_some_iff.1 hj).1
    rw [List.length_set] at hjl
    have d1 := dist_cases l.length k j
    have d2 := dist_cases l.length k (nxt l.length k)
    have d3 := nxt_cases l.length k
    omega
  · rw [← a9]
    constructor
    · rintro ⟨j, q, hjk, hj, hrest⟩
      rw [g] at hj
      by_cases hij : i = j
      · rw [if_pos hij] at hj; cases hj
        exact ⟨k, p, Ne.symm a4, hp, hrest⟩
      · rw [if_neg hij] at hj
        exact ⟨j, q, Ne.symm hij, hj, hrest⟩
    · rintro ⟨j, q, hji, hj, hrest⟩
      by_cases hjk : j = k
      · subst hjk
        rw [hp] at hj; cases hj
        exact ⟨i, p, a4, by rw [g, if_pos rfl], hrest⟩
      · exact ⟨j, q, hjk, by rw [g, if_neg (Ne.symm hji)]; exact hj, hrest⟩
  · rw [used_swap hph hp hph1 h1]; exact a10
  · rw [g] at hj
    by_cases hij : i = j
    · rw [if_pos hij] at hj; cases hj
      subst hij
      rw [← a11 i ph hph]
      constructor <;> intro <;> omega
    · rw [if_neg hij] at hj
      exact a11 j q hj
/-- the scan has come to an empty place -/
theorem rem_end {home : ByteArray → Nat} {l0 l : List Pl} {i0 i k : Nat} {p p0 : Pl} (h : RemI home l0 i0 l i k) (hI : Inv home l0) (hp : l[k]? = some p) (h0 : p.st = 0) (hp0 : l0[i0]? = some p0) (hp01 : p0.st = 1) :
    Inv home (l.set i pEmpty) ∧ usedN (l.set i pEmpty) + 1 = usedN l0 ∧ (l.set i pEmpty).length = l0.length ∧ ∀ ke e, HasK (l.set i pEmpty) ke e ↔ HasK l0 ke e ∧ ke ≠ p0.key := by
  obtain ⟨a1, a2, a3, a4, ⟨ph, hph, hph1⟩, a6, a7, a8, a9, a10, a11⟩ := h
  have hhl : ∀ k', home k' < l.length := fun k' => by rw [a1]; exact hI.hl k'
  have g : ∀ j, (l.set i pEmpty)[j]? = if i = j then some pEmpty else l[j]? := fun j => by
    rw [List.getElem?_set]; split
    · subst_vars; simp
    · rfl
  refine ⟨⟨fun k' => by rw [List.length_set]; exact hhl k', fun j q hj hq t ht => ?_, fun j j' q q' hj hj' hq hq' hkk => ?_⟩, ?_, by rw [List.length_set]; exact a1, fun ke e => ?_⟩
  · rw [List.length_set] at ht ⊢
    rw [g] at hj ⊢
    by_cases hij : i = j
    · rw [if_pos hij] at hj; cases hj; simp [pEmpty] at hq
    · rw [if_neg hij] at hj
      have hjl := (List.getElem?_eq_some_iff.1 hj).1
      have hhq := hhl q.key
      obtain ⟨r, hr, hr0⟩ := a6 j q (Ne.symm hij) hj hq t ht
      by_cases hit : i = pos l.length (home q.key) t
      · exfalso
        -- the hole would lie between q's home and its place j; the empty place k does not: so j was scanned
        have hdk : ¬ dist l.length (home q.key) k < dist l.length (home q.key) j := fun hlt => by
          obtain ⟨r', hr', hr0'⟩ := a6 j q (Ne.symm hij) hj hq _ hlt
          rw [pos_dist hhq a3, hp] at hr'
          cases hr'
          exact hr0' h0
        have hjk : j ≠ k := fun e => by subst e; rw [hp] at hj; cases hj; omega
        have hti : t = dist l.length (home q.key) i := by rw [hit, dist_pos hhq (by have := dist_lt hhq hjl; omega)]
        have h3 : 0 < dist l.length i j ∧ dist l.length i j < dist l.length i k ∧ dist l.length i j ≤ dist l.length (home q.key) j := by
          have d1 := dist_cases l.length i j
          have d2 := dist_cases l.length i k
          have d3 := dist_cases l.length (home q.key) j
          have d4 := dist_cases l.length (home q.key) i
          have d5 := dist_cases l.length (home q.key) k
          omega
        have := a8 j q hj hq h3.1 h3.2.1
        omega
      · rw [if_neg hit]; exact ⟨r, hr, hr0⟩
  · rw [g] at hj hj'
    by_cases x1 : i = j
    · rw [if_pos x1] at hj; cases hj; simp [pEmpty] at hq
    · by_cases x2 : i = j'
      · rw [if_pos x2] at hj'; cases hj'; simp [pEmpty] at hq'
      · rw [if_neg x1] at hj; rw [if_neg x2] at hj'
        exact a7 j j' q q' (Ne.symm x1) (Ne.symm x2) hj hj' hq hq' hkk
  · have := used_set (q := pEmpty) hph
    rw [if_pos hph1, if_neg (by simp [pEmpty])] at this
    omega
  · rw [has_set a2]
    have hz : ¬ (pEmpty.st = 1 ∧ pEmpty.key = ke ∧ pEmpty.en = e) := by simp [pEmpty]
    rw [or_iff_right hz, a9]
    constructor
    · rintro ⟨j, q, hji, hj, hq, hk, he⟩
      refine ⟨⟨j, q, hj, hq, hk, he⟩, fun e' => hji ?_⟩
      exact hI.uniq j i0 q p0 hj hp0 hq hp01 (hk.trans e')
    · rintro ⟨⟨j, q, hj, hq, hk, he⟩, hne⟩
      refine ⟨j, q, fun e' => hne ?_, hj, hq, hk, he⟩
      subst e'
      rw [hp0] at hj; cases hj; exact hk.symm
end Go.Proofs.Ytbfkhghegkiifaa
