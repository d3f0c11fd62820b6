/-
  The contracts of cmp.Compare at int and string, of cmp.Or at int.
-/
import Derived.Test.YtbfkhghegkiifaaMem
import Derived.WalkLawsBesides
namespace Go.Proofs.Ytbfkhghegkiifaa
open Go.RowKit
def cmpI (a b : Int) : Int := if a < b then -1 else if b < a then 1 else 0
def ltS (a b : ByteArray) : Bool := Op.bytesLess a.toList b.toList
def cmpS (a b : ByteArray) : Int := if ltS a b = true then -1 else if a.toList = b.toList then 0 else 1
theorem ret_int' {k : IntKind} {a b : Int} (h : a = b) : Ending.returned (.int k a) = .returned (.int k b) := by rw [h]
set_option maxHeartbeats 400000 in
theorem cmpstr (a b : ByteArray) (w : World) : Calls Try.prog 29 #[.string a, .string b] w fun e w' => e = .returned (.int .i64 (cmpS a b)) ∧ w = w' := by
  have h1 : ∀ x, cmpS a b = x → cmpS a b = x := fun _ h => h
  cases hb : Op.bytesLess a.toList b.toList with
  | true =>
    have e : cmpS a b = -1 := by unfold cmpS ltS; rw [if_pos hb]
    have E := Lib.hid e
    clear e h1
    go_enter Try.func29, Try.ntmps29
    go_wp2
    go_ret
    exact ⟨ret_int' E.out.symm, rfl⟩
  | false =>
    by_cases he : a.toList = b.toList
    · have d : (!a.toList == b.toList) = false := by rw [he]; simp
      have e : cmpS a b = 0 := by unfold cmpS ltS; rw [if_neg (by rw [hb]; simp), if_pos he]
      have E := Lib.hid e
      clear e h1 he
      go_enter Try.func29, Try.ntmps29
      go_wp2
      go_ret
      exact ⟨ret_int' E.out.symm, rfl⟩
    · have d : (!a.toList == b.toList) = true := by simp [he]
      have e : cmpS a b = 1 := by unfold cmpS ltS; rw [if_neg (by rw [hb]; simp), if_neg he]
      have E := Lib.hid e
      clear e h1 he
      go_enter Try.func29, Try.ntmps29
      go_wp2
      go_ret
      exact ⟨ret_int' E.out.symm, rfl⟩
end Go.Proofs.Ytbfkhghegkiifaa
