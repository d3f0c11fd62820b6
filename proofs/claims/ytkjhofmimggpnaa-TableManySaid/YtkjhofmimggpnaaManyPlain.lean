/-
  TableMany's plain law: which of the n keys a table still holds.
-/
import Derived.Test.YtkjhofmimggpnaaTabPairs
namespace Go.Proofs.Ytkjhofmimggpnaa
open Go.RowKit
set_option linter.unusedVariables false
def offE (m : Nat) : Ent := ⟨0, (m : Int), 0, 0, false⟩
/-- the keys 0 .. i - 1 are in -/
structure MkS (T : Tab) (i : Nat) : Prop where
  has : ∀ k e, Has T k e ↔ ∃ m, m < i ∧ k = nameN m ∧ e = offE m
  tot : T.tot = i
theorem mk0 {T : Tab} (h : ∀ k e, ¬ Has T k e) (h0 : T.tot = 0) : MkS T 0 := ⟨fun k e => ⟨fun hh => absurd hh (h k e), fun ⟨m, hm, _⟩ => absurd hm (by omega)⟩, h0⟩
theorem mk1 {T T' : Tab} {i : Nat} (hi : i < 200) (h : MkS T i) (s : SetI T T' (nameN i) (offE i)) : MkS T' (i + 1) := by
  have hno : ∀ e0, ¬ Has T (nameN i) e0 := fun e0 hh => by
    obtain ⟨m, hm, hk, _⟩ := (h.has _ _).1 hh
    have := nameN_inj (by omega) (by omega) hk
    omega
  refine ⟨fun k e => ?_, ?_⟩
  · rw [s.has, h.has]
    constructor
    · rintro (⟨rfl, rfl⟩ | ⟨_, m, hm, rfl, rfl⟩)
      · exact ⟨i, by omega, rfl, rfl⟩
      · exact ⟨m, by omega, rfl, rfl⟩
    · rintro ⟨m, hm, rfl, rfl⟩
      by_cases he : m = i
      · subst he; exact .inl ⟨rfl, rfl⟩
      · exact .inr ⟨fun hk => he (nameN_inj (by omega) (by omega) hk), m, by omega, rfl, rfl⟩
  · have := h.tot
    rcases s.tot with ⟨⟨e0, hh⟩, _⟩ | ⟨_, h1⟩
    · exact absurd hh (hno e0)
    · omega
def walkN (n fs i : Nat) : Nat := (i * 7 + fs) % n
theorem walkN_inj {n fs i j : Nat} (h7 : n % 7 ≠ 0) (hi : i < n) (hj : j < n) (h : walkN n fs i = walkN n fs j) : i = j := by
  unfold walkN at h
  have hcop : Nat.Coprime n 7 := by
    have h1 : Nat.gcd n 7 ∣ 7 := Nat.gcd_dvd_right n 7
    have h2 : Nat.gcd n 7 ≤ 7 := Nat.le_of_dvd (by omega) h1
    have h3 : Nat.gcd n 7 ∣ n := Nat.gcd_dvd_left n 7
    unfold Nat.Coprime
    generalize hg : Nat.gcd n 7 = g at *
    have : g = 0 ∨ g = 1 ∨ g = 2 ∨ g = 3 ∨ g = 4 ∨ g = 5 ∨ g = 6 ∨ g = 7 := by omega
    rcases this with rfl | rfl | rfl | rfl | rfl | rfl | rfl | rfl
    all_goals first | rfl | (exfalso; omega)
  rcases Nat.lt_or_ge i j with hlt | hge
  · have h1 : n ∣ (j * 7 + fs) - (i * 7 + fs) := Nat.dvd_of_mod_eq_zero (Nat.sub_mod_eq_zero_of_mod_eq h.symm)
    have h2 : (j * 7 + fs) - (i * 7 + fs) = (j - i) * 7 := by omega
    rw [h2] at h1
    have h3 := hcop.dvd_of_dvd_mul_right h1
    have := Nat.le_of_dvd (by omega) h3
    omega
  · have h1 : n ∣ (i * 7 + fs) - (j * 7 + fs) := Nat.dvd_of_mod_eq_zero (Nat.sub_mod_eq_zero_of_mod_eq h)
    have h2 : (i * 7 + fs) - (j * 7 + fs) = (i - j) * 7 := by omega
    rw [h2] at h1
    have h3 := hcop.dvd_of_dvd_mul_right h1
    rcases Nat.eq_zero_or_pos (i - j) with h4 | h4
    · omega
    · have := Nat.le_of_dvd h4 h3
      omega
/-- the keys of the first i steps are out -/
structure MkD (T : Tab) (n fs i : Nat) : Prop where
  has : ∀ k e, Has T k e ↔ ∃ m, m < n ∧ (∀ j, j < i → walkN n fs j ≠ m) ∧ k = nameN m ∧ e = offE m
  tot : T.tot + i = n
theorem mkd0 {T : Tab} {n fs : Nat} (h : MkS T n) : MkD T n fs 0 := by
  refine ⟨fun k e => ?_, by have := h.tot; omega⟩
  rw [h.has]
  constructor
  · rintro ⟨m, hm, h1, h2⟩; exact ⟨m, hm, fun j hj => absurd hj (by omega), h1, h2⟩
  · rintro ⟨m, hm, _, h1, h2⟩; exact ⟨m, hm, h1, h2⟩
theorem mkd_has {T : Tab} {n fs i : Nat} (hn : n < 200) (h7 : n % 7 ≠ 0) (hi : i < n) (h : MkD T n fs i) : Has T (nameN (walkN n fs i)) (offE (walkN n fs i)) :=
  (h.has _ _).2 ⟨walkN n fs i, Nat.mod_lt _ (by omega), fun j hj e => by
    have := walkN_inj h7 (by omega) hi e
    omega, rfl, rfl⟩
theorem mkd_get {T T' : Tab} {n fs i : Nat} {b : Bool} {x : Ent} (hn : n < 200) (h7 : n % 7 ≠ 0) (hi : i < n) (h : MkD T n fs i) (s : GetI T T' (nameN (walkN n fs i)) b x) : b = true ∧ x = offE (walkN n fs i) ∧ MkD T' n fs i := by
  have hw : walkN n fs i < n := Nat.mod_lt _ (by omega)
  have hb : b = true := by
    cases b with
    | true => rfl
    | false => exact absurd (mkd_has hn h7 hi h) ((s.miss rfl).1 _)
  subst hb
  obtain ⟨m, hm, _, h1, h2⟩ := (h.has _ _).1 (s.hit rfl)
  obtain rfl := nameN_inj (by omega) (by omega) h1
  exact ⟨rfl, h2, ⟨fun k e => (s.has k e).trans (h.has k e), by have := h.tot; have := s.tot; omega⟩⟩
theorem mkd_del {T T' : Tab} {n fs i : Nat} {b : Bool} (hn : n < 200) (h7 : n % 7 ≠ 0) (hi : i < n) (h : MkD T n fs i) (s : DelI T T' (nameN (walkN n fs i)) b) : b = true ∧ MkD T' n fs (i + 1) := by
  have hw : walkN n fs i < n := Nat.mod_lt _ (by omega)
  have hb : b = true := s.hit.2 ⟨_, mkd_has hn h7 hi h⟩
  subst hb
  refine ⟨rfl, fun k e => ?_, ?_⟩
  · rw [s.has, h.has]
    constructor
    · rintro ⟨hk, m, hm, h1, rfl, h2⟩
      refine ⟨m, hm, fun j hj e => ?_, rfl, h2⟩
      rcases Nat.lt_or_ge j i with h3 | h3
      · exact h1 j h3 e
      · obtain rfl : j = i := by omega
        exact hk (by rw [e])
    · rintro ⟨m, hm, h1, rfl, h2⟩
      exact ⟨fun hk => h1 i (by omega) (nameN_inj (by omega) (by omega) hk).symm, m, hm, fun j hj => h1 j (by omega), rfl, h2⟩
  · have h1 := s.tot
    have h2 := h.tot
    simp at h1
    omega
end Go.Proofs.Ytkjhofmimggpnaa
