/-
  The contracts of cmp.Compare at int and string, of cmp.Or at int.
-/
import Derived.Test.YtdjjmglocdhnhaaMem
import Derived.WalkLawsBesides
namespace Go.Proofs.Ytdjjmglocdhnhaa
open Go.RowKit
def cmpI (a b : Int) : Int := if a < b then -1 else if b < a then 1 else 0
def ltS (a b : ByteArray) : Bool := Op.bytesLess a.toList b.toList
def cmpS (a b : ByteArray) : Int := if ltS a b = true then -1 else if a.toList = b.toList then 0 else 1
theorem ret_int' {k : IntKind} {a b : Int} (h : a = b) : Ending.returned (.int k a) = .returned (.int k b) := by rw [h]
set_option maxHeartbeats 400000 in
theorem cmpint (a b : Int) (w : World) : Calls Try.prog 21 #[.int .i64 a, .int .i64 b] w fun e w' => e = .returned (.int .i64 (cmpI a b)) ∧ w = w' := by
  go_enter Try.func21, Try.ntmps21
  go_wp2
  all_goals
    go_ret
    refine ⟨ret_int' ?_, rfl⟩
    unfold cmpI
    repeat' split
    all_goals omega
end Go.Proofs.Ytdjjmglocdhnhaa
