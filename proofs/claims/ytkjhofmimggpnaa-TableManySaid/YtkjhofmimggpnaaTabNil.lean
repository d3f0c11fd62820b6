/-
  The calls on a nil table.
-/
import Derived.Test.YtkjhofmimggpnaaTabGet
namespace Go.Proofs.Ytkjhofmimggpnaa
open Go.RowKit
set_option linter.unusedVariables false
theorem nil_len (w : World) : Calls Try.prog 15 #[.pointer none] w fun e w' => e = .returned (.int .i64 0) ∧ w = w' := by
  go_enter Try.func15, Try.ntmps15
  go_wp2_with fail
  go_ret
  exact ⟨rfl, rfl⟩
theorem nil_places (w : World) : Calls Try.prog 14 #[.pointer none] w fun e w' => e = .returned (.int .i64 0) ∧ w = w' := by
  go_enter Try.func14, Try.ntmps14
  go_wp2_with fail
  go_ret
  exact ⟨rfl, rfl⟩
theorem nil_work (w : World) : Calls Try.prog 16 #[.pointer none] w fun e w' => e = .returned (.int .i64 0) ∧ w = w' := by
  go_enter Try.func16, Try.ntmps16
  go_wp2_with fail
  go_ret
  exact ⟨rfl, rfl⟩
theorem nil_del (k : ByteArray) (w : World) : Calls Try.prog 13 #[.pointer none, .string k] w fun e w' => e = .returned (.bool false) ∧ w = w' := by
  go_enter Try.func13, Try.ntmps13
  go_wp2_with fail
  go_ret
  exact ⟨rfl, rfl⟩
set_option maxHeartbeats 1000000 in
theorem nil_set (k : ByteArray) (e : Ent) (w : World) : Calls Try.prog 9 #[.pointer none, .string k, entV e] w fun e' w' => e' = .returned (.tuple #[]) ∧ Below w.heap.size w w' := by
  unfold entV
  go_enter Try.func9, Try.ntmps9
  go_wp2_with fail
  refine bodyPost_ret (results_none rfl _ _ _) rfl ?_
  exact ⟨rfl, (Below.refl _ _).alloc (Nat.le_refl _) _⟩
set_option maxHeartbeats 1000000 in
theorem nil_get (k : ByteArray) (w : World) : Calls Try.prog 10 #[.pointer none, .string k] w fun e' w' => e' = .returned (.tuple #[entV ent0, .bool false]) ∧ Below w.heap.size w w' := by
  have q : (w.alloc (.cells #[.int .i64 0, .int .i64 0, .int .i64 0, .int .i64 0, .bool false] 27)).heap[w.heap.size]? = some (.cells #[.int .i64 0, .int .i64 0, .int .i64 0, .int .i64 0, .bool false] 27 (0, 0)) := by
    show (w.heap.push _)[w.heap.size]? = _
    simp
  go_enter Try.func10, Try.ntmps10
  go_wp2_with fail
  refine bodyPost_ret (v := .tuple #[entV ent0, .bool false]) (by simp [results, Try.results10, go_sem]; exact ⟨rfl, rfl, rfl, rfl, rfl⟩) rfl ?_
  exact ⟨rfl, (Below.refl _ _).alloc (Nat.le_refl _) _⟩
theorem nil_pairs (w : World) : Calls Try.prog 21 #[.pointer none] w fun e w' => e = .returned (.slice none 0 0) ∧ w = w' := by
  go_enter Try.func21, Try.ntmps21
  go_wp2_with fail
  go_ret
  exact ⟨rfl, rfl⟩
end Go.Proofs.Ytkjhofmimggpnaa
