/-
  '!=' at pairs and entries, where both are one.
-/
import Derived.Test.YtkjhofmimggpnaaTabPlain
import Derived.Laws.StructEq
namespace Go.Proofs.Ytkjhofmimggpnaa
open Go.RowKit
set_option linter.unusedVariables false
theorem neqEn (e : Ent) (w : World) : Sem.run Try.prog (binOp .neq 27 (.agg #[.int .i64 e.seq, .int .i64 e.off, .int .i64 e.len, .int .i64 e.exp, .bool e.hit]) (.agg #[.int .i64 e.seq, .int .i64 e.off, .int .i64 e.len, .int .i64 e.exp, .bool e.hit])) w = .ok (.bool false) w := by
  have hS : Try.prog.underlying 27 = some (.struct (Try.prog.fieldsOf 27)) := by kernel_rfl
  have hp : Try.prog.stoodInHeld 27 = false := by kernel_rfl
  rw [run_neq_struct, show (10000 : Nat) = 9999 + 1 from rfl, run_equalIn_agg w 9999 27 _ _ hS hp]
  have u3 := Try.underlying3
  have a3 := Try.isAgg3
  have z3 := Try.sizeOf3
  have u4 := Try.underlying4
  have a4 := Try.isAgg4
  have z4 := Try.sizeOf4
  simp only [Program.fieldsOf, Try.underlying27]
  go_simp
set_option maxRecDepth 100000 in
theorem neqPr (k : ByteArray) (e : Ent) (w : World) : Sem.run Try.prog (binOp .neq 46 (.agg #[.string k, .int .i64 e.seq, .int .i64 e.off, .int .i64 e.len, .int .i64 e.exp, .bool e.hit]) (.agg #[.string k, .int .i64 e.seq, .int .i64 e.off, .int .i64 e.len, .int .i64 e.exp, .bool e.hit])) w = .ok (.bool false) w := by
  have hS : Try.prog.underlying 46 = some (.struct (Try.prog.fieldsOf 46)) := by kernel_rfl
  have hp : Try.prog.stoodInHeld 46 = false := by kernel_rfl
  have hS' : Try.prog.underlying 27 = some (.struct (Try.prog.fieldsOf 27)) := by kernel_rfl
  have hp' : Try.prog.stoodInHeld 27 = false := by kernel_rfl
  rw [run_neq_struct, show (10000 : Nat) = 9998 + 1 + 1 from rfl, run_equalIn_agg w (9998 + 1) 46 _ _ hS hp]
  have u3 := Try.underlying3
  have a3 := Try.isAgg3
  have z3 := Try.sizeOf3
  have u4 := Try.underlying4
  have a4 := Try.isAgg4
  have z4 := Try.sizeOf4
  have u9 := Try.underlying9
  have a9 := Try.isAgg9
  have z9 := Try.sizeOf9
  have a27 := Try.isAgg27
  have z27 := Try.sizeOf27
  have u27 := Try.underlying27
  clear hS hS'
  simp only [Program.fieldsOf, Try.underlying46]
  go_simp
end Go.Proofs.Ytkjhofmimggpnaa
