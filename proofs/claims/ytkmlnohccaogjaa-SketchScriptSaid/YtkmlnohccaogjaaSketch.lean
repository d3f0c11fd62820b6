/-
  The sketch as a function of its state: 4 * 64 counters and the number of touches; what one touch and one estimate compute.
-/
import Derived.Test.YtkmlnohccaogjaaHash
import Derived.Test.YtkmlnohccaogjaaMem
import Derived.BigRegion
import Derived.Deep.LoopGhost
namespace Go.Proofs.Ytkmlnohccaogjaa
open Go.RowKit
/-- the cells of a sketch, or of the reference's: 256 counters, then the number of touches -/
def Sk (k : IntKind) (w : World) (b : Nat) (c : Nat → Nat) (n : Nat) : Prop :=
  (∀ i, i < 256 → w.cell? ⟨b, i, none⟩ = some (.int k (c i : Int))) ∧ w.cell? ⟨b, 256, none⟩ = some (.int .i64 (n : Int)) ∧ (∀ i, w.frozen? ⟨b, i, none⟩ = false)
def idx (h : Int) (r : Nat) : Nat := r * 64 + (rowD h (r : Int)).toNat
def upd (c : Nat → Nat) (i v : Nat) : Nat → Nat := fun j => if j = i then v else c j
def bump (c : Nat → Nat) (i : Nat) : Nat → Nat := upd c i (min (c i + 1) 15)
def rowsD (c : Nat → Nat) (h : Int) : Nat → Nat → Nat
  | 0 => c
  | r + 1 => bump (rowsD c h r) (idx h r)
def half (c : Nat → Nat) (m : Nat) : Nat → Nat := fun i => if i < m then c i / 2 else c i
def touchC (c : Nat → Nat) (n : Nat) (h : Int) : Nat → Nat := if n + 1 < 640 then rowsD c h 4 else half (rowsD c h 4) 256
def touchN (n : Nat) : Nat := if n + 1 < 640 then n + 1 else 320
theorem half_zero (c : Nat → Nat) : half c 0 = c := by funext i; unfold half; rw [if_neg (by omega)]
theorem half_succ (c : Nat → Nat) (m : Nat) : half c (m + 1) = upd (half c m) m (half c m m / 2) := by
  funext i
  unfold upd half
  by_cases h : i = m
  · subst h; rw [if_pos rfl, if_pos (by omega), if_neg (by omega)]
  · rw [if_neg h]
    by_cases h2 : i < m
    · rw [if_pos h2, if_pos (by omega)]
    · rw [if_neg h2, if_neg (by omega)]
theorem rowD_rng (h n : Int) : 0 ≤ rowD h n ∧ rowD h n < 64 := by
  unfold rowD
  split <;> omega
theorem idx_lt (h : Int) (r : Nat) (hr : r < 4) : idx h r < 256 := by
  have := rowD_rng h r
  unfold idx; omega
theorem bump_le (c : Nat → Nat) (i : Nat) (hc : ∀ j, c j ≤ 15) : ∀ j, bump c i j ≤ 15 := by
  intro j
  unfold bump upd
  split
  · omega
  · exact hc j
theorem rowsD_le (c : Nat → Nat) (h : Int) (hc : ∀ j, c j ≤ 15) (r : Nat) : ∀ j, rowsD c h r j ≤ 15 := by
  induction r with
  | zero => exact hc
  | succ r ih => exact bump_le _ _ ih
theorem Sk.setC {k : IntKind} {w : World} {b : Nat} {c : Nat → Nat} {n : Nat} (h : Sk k w b c n) (i v : Nat) (hi : i < 256) : Sk k (w.setCell ⟨b, i, none⟩ (.int k (v : Int))) b (upd c i v) n := by
  obtain ⟨h1, h2, h3⟩ := h
  refine ⟨fun j hj => ?_, ?_, fun j => by rw [World.frozen?_setCell]; exact h3 j⟩
  · unfold upd
    by_cases hji : j = i
    · subst hji
      rw [if_pos rfl, World.cell?_setCell_same _ _ _ (h1 j hj)]
    · rw [if_neg hji, World.cell?_setCell_other _ _ _ _ (fun e => hji (by injection e with _ e2 _; exact e2.symm)), h1 j hj]
  · rw [World.cell?_setCell_other _ _ _ _ (fun e => by injection e with _ e2 _; omega), h2]
theorem Sk.setN {k : IntKind} {w : World} {b : Nat} {c : Nat → Nat} {n : Nat} (h : Sk k w b c n) (v : Nat) : Sk k (w.setCell ⟨b, 256, none⟩ (.int .i64 (v : Int))) b c v := by
  obtain ⟨h1, h2, h3⟩ := h
  refine ⟨fun j hj => ?_, ?_, fun j => by rw [World.frozen?_setCell]; exact h3 j⟩
  · rw [World.cell?_setCell_other _ _ _ _ (fun e => by injection e with _ e2 _; omega), h1 j hj]
  · rw [World.cell?_setCell_same _ _ _ h2]
theorem grown_set {w w' : World} {b i : Nat} {v : Value} (h : w.grownBy w' (some b)) : w.grownBy (w'.setCell ⟨b, i, none⟩ v) (some b) :=
  ⟨h.os, h.tape, h.output, by simpa [World.setCell] using h.size, fun k hk hne => by
    rw [Below.heap_setCell _ _ _ _ (by simpa using fun e => hne (by rw [e]))]; exact h.block k hk hne⟩
theorem grown_drewN {w w' : World} {r : Option Nat} (h : w.grownBy w' r) (n : Nat) : w.grownBy (w'.drewN n) r :=
  ⟨h.os, h.tape, h.output, h.size, h.block⟩
theorem Sk.drewN {k : IntKind} {w : World} {b : Nat} {c : Nat → Nat} {n : Nat} (h : Sk k w b c n) (m : Nat) : Sk k (w.drewN m) b c n :=
  ⟨fun i hi => h.1 i hi, h.2.1, fun i => h.2.2 i⟩
end Go.Proofs.Ytkmlnohccaogjaa
