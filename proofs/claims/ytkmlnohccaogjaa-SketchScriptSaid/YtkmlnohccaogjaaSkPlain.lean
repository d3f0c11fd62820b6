/-
  The sketch's plain laws: what the counters are after fewer than 640 touches; that their order does not matter; the least counter.
-/
import Derived.Test.YtkmlnohccaogjaaEst
namespace Go.Proofs.Ytkmlnohccaogjaa
/-- the state after k touches, of the hashes f 0, f 1, .. -/
def runS (f : Nat → Int) : Nat → (Nat → Nat) × Nat
  | 0 => (fun _ => 0, 0)
  | k + 1 => (touchC (runS f k).1 (runS f k).2 (f k), touchN (runS f k).2)
theorem touchC_le (c : Nat → Nat) (n : Nat) (h : Int) (hc : ∀ j, c j ≤ 15) : ∀ j, touchC c n h j ≤ 15 := by
  unfold touchC
  split
  · exact rowsD_le c h hc 4
  · exact half_le _ _ (rowsD_le c h hc 4)
theorem touchN_lt (n : Nat) (_hn : n < 640) : touchN n < 640 := by
  unfold touchN; split <;> omega
theorem runS_ok (f : Nat → Int) (k : Nat) : (∀ j, (runS f k).1 j ≤ 15) ∧ (runS f k).2 < 640 := by
  induction k with
  | zero => exact ⟨fun _ => Nat.zero_le _, by show 0 < 640; omega⟩
  | succ k ih => exact ⟨touchC_le _ _ _ ih.1, touchN_lt _ ih.2⟩
theorem rowsD_at (c : Nat → Nat) (h : Int) (r : Nat) (i : Nat) : rowsD c h r i = if i / 64 < r ∧ idx h (i / 64) = i then min (c i + 1) 15 else c i := by
  induction r with
  | zero => rw [if_neg (by omega)]; rfl
  | succ r ih =>
    show bump (rowsD c h r) (idx h r) i = _
    have hr := rowD_rng h r
    unfold bump upd
    by_cases hi : i = idx h r
    · have hq : i / 64 = r := by rw [hi]; unfold idx; omega
      rw [if_pos hi, if_pos ⟨by omega, by rw [hq]; exact hi.symm⟩]
      have : rowsD c h r (idx h r) = c (idx h r) := by
        rw [← hi, ih, if_neg (by omega)]
      rw [this, hi]
    · rw [if_neg hi, ih]
      by_cases h2 : i / 64 < r ∧ idx h (i / 64) = i
      · rw [if_pos h2, if_pos ⟨by omega, h2.2⟩]
      · rw [if_neg h2, if_neg]
        rintro ⟨h3, h4⟩
        have : i / 64 = r := by
          by_cases h5 : i / 64 < r
          · exact (h2 ⟨h5, h4⟩).elim
          · omega
        rw [this] at h4
        exact hi h4.symm
def hit (i : Nat) (h : Int) : Bool := decide (idx h (i / 64) = i)
theorem runS_count (f : Nat → Int) (k : Nat) (hk : k < 640) : (runS f k).2 = k ∧ ∀ i, i < 256 → (runS f k).1 i = min 15 (((List.range k).map f).countP (hit i)) := by
  induction k with
  | zero => exact ⟨rfl, fun i _ => rfl⟩
  | succ k ih =>
    obtain ⟨h1, h2⟩ := ih (by omega)
    have e1 : touchN (runS f k).2 = k + 1 := by unfold touchN; rw [h1, if_pos (by omega)]
    refine ⟨e1, fun i hi => ?_⟩
    show touchC (runS f k).1 (runS f k).2 (f k) i = _
    unfold touchC
    rw [if_pos (by omega), rowsD_at, h2 i hi, List.range_succ, List.map_append, List.countP_append]
    simp only [List.map_cons, List.map_nil, List.countP_singleton, hit, decide_eq_true_eq]
    by_cases hh : idx (f k) (i / 64) = i
    · rw [if_pos ⟨by omega, hh⟩, if_pos hh]; omega
    · rw [if_neg (fun x => hh x.2), if_neg hh]; omega
theorem map_rev (f : Nat → Int) (n : Nat) : (List.range n).map (fun j => f (n - 1 - j)) = ((List.range n).map f).reverse := by
  apply List.ext_getElem
  · simp
  · intro i h1 h2
    simp at h1 h2
    simp
theorem run_rev (f : Nat → Int) (n : Nat) (hn : n < 640) (h : Int) : estD (runS f n).1 h 4 = estD (runS (fun j => f (n - 1 - j)) n).1 h 4 := by
  have key : ∀ i, i < 256 → (runS f n).1 i = (runS (fun j => f (n - 1 - j)) n).1 i := by
    intro i hi
    rw [(runS_count f n hn).2 i hi, (runS_count _ n hn).2 i hi, map_rev, List.countP_reverse]
  have : ∀ r, r ≤ 4 → estD (runS f n).1 h r = estD (runS (fun j => f (n - 1 - j)) n).1 h r := by
    intro r
    induction r with
    | zero => intro _; rfl
    | succ r ih => intro hr; unfold estD; rw [ih (by omega), key _ (idx_lt h r (by omega))]
  exact this 4 (Nat.le_refl _)
theorem run_least (f : Nat → Int) (n : Nat) (hn : n < 640) (h : Int) : min (((List.range n).map f).countP (fun x => x == h)) 15 ≤ estD (runS f n).1 h 4 := by
  have key : ∀ r, r < 4 → min (((List.range n).map f).countP (fun x => x == h)) 15 ≤ (runS f n).1 (idx h r) := by
    intro r hr
    rw [(runS_count f n hn).2 _ (idx_lt h r hr)]
    have hle : ((List.range n).map f).countP (fun x => x == h) ≤ ((List.range n).map f).countP (hit (idx h r)) := by
      apply List.countP_mono_left
      intro x _ hx
      rw [beq_iff_eq] at hx
      subst hx
      have hr' := rowD_rng x r
      unfold hit
      rw [decide_eq_true_eq]
      have : idx x r / 64 = r := by unfold idx; omega
      rw [this]
    omega
  have : ∀ r, r ≤ 4 → min (((List.range n).map f).countP (fun x => x == h)) 15 ≤ estD (runS f n).1 h r := by
    intro r
    induction r with
    | zero => intro _; unfold estD; omega
    | succ r ih => intro hr; unfold estD; have a := ih (by omega); have b := key r (by omega); omega
  exact this 4 (Nat.le_refl _)
end Go.Proofs.Ytkmlnohccaogjaa
