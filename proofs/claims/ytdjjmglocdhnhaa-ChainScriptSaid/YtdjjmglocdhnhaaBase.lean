/-
  Plain words and laws shared by the texts of this seat: what a slice of integers that came in gives to a walk; three closed facts on the program.
-/
import Derived.Test.YtdjjmglocdhnhaaRows
import Derived.WalkKit
import Derived.ProofKit
import Derived.OpenShut
import Derived.ShutString
import Derived.ChangeOld
import Derived.Below
import Derived.Lib.Hide
import Derived.Lib.SmallJoins
namespace Go.Proofs.Ytdjjmglocdhnhaa
open Go.RowKit
theorem own : ownKnob Try.prog.godebug = none := by kernel_rfl
theorem laidOut : laidOutB Try.prog = true := by kernel_rfl
/-- the first 'len' elements of a slice that came in, as integers of a kind -/
def Elems (k : IntKind) (w : World) (a : Option Addr) (len : Nat) (zs : List Int) : Prop :=
  ∀ i, i < len → ∃ b off, a = some ⟨b, off, none⟩ ∧ b < w.heap.size ∧ w.cell? ⟨b, off + i, none⟩ = some (.int k (zs[i]?.getD 0))
theorem Elems.le {k : IntKind} {w : World} {a : Option Addr} {len len' : Nat} {zs : List Int} (h : Elems k w a len zs) (hl : len' ≤ len) : Elems k w a len' zs :=
  fun i hi => h i (by omega)
theorem Elems.below {k : IntKind} {w w' : World} {B : Nat} {a : Option Addr} {len : Nat} {zs : List Int} (h : Elems k w a len zs) (hb : Below B w w') (hB : w.heap.size ≤ B) : Elems k w' a len zs := by
  intro i hi
  obtain ⟨b, off, ha, hlt, hc⟩ := h i hi
  refine ⟨b, off, ha, Nat.lt_of_lt_of_le hlt hb.size, ?_⟩
  rw [hb.cell (by show b < B; omega)]; exact hc
/-- What a walk is told of a slice of integers that came in: it is nil; or it leads to a row of 'cap' cells, the numbers 'zs'. -/
def IsRow (k : IntKind) (w : World) (a : Option Addr) (len cap : Nat) (zs : List Int) : Prop :=
  (a = none ∧ len = 0 ∧ cap = 0 ∧ zs = []) ∨
  ∃ x, a = some x ∧ len ≤ cap ∧ cap ≤ maxLen ∧ zs.length = cap ∧ (∀ i, i < zs.length → w.cell? (x.add i) = some (.int k (zs.getD i 0))) ∧ ∀ n ∈ zs, (Lit.int k n).wf = true
theorem IsRow.elems {k : IntKind} {w : World} {a : Option Addr} {len cap : Nat} {zs : List Int} (h : IsRow k w a len cap zs) : Elems k w a len zs := by
  rcases h with ⟨_, rfl, _, _⟩ | ⟨x, rfl, h1, h2, h3, h4, h5⟩
  · intro i hi; omega
  · intro i hi
    obtain ⟨b, off, rfl, hc⟩ := ints_at h4 (by omega)
    have g := hc i (by omega)
    refine ⟨b, off, rfl, World.block_lt_of_cell? _ _ g, by simpa using g⟩
theorem IsRow.len_le {k : IntKind} {w : World} {a : Option Addr} {len cap : Nat} {zs : List Int} (h : IsRow k w a len cap zs) : len ≤ 9223372036854775807 ∧ len ≤ cap := by
  rcases h with ⟨_, rfl, rfl, _⟩ | ⟨x, rfl, h1, h2, h3, h4, h5⟩
  · omega
  · unfold maxLen at h2; omega
end Go.Proofs.Ytdjjmglocdhnhaa
