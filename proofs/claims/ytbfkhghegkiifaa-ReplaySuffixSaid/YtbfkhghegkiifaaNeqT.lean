/-
  '!=' at pairs and entries, where both are one.
-/
import Derived.Test.YtbfkhghegkiifaaTabPlain
import Derived.Laws.StructEq
namespace Go.Proofs.Ytbfkhghegkiifaa
open Go.RowKit
set_option linter.unusedVariables false
theorem neqEn (e : Ent) (w : World) : Sem.run Try.prog (binOp .neq 36 (.agg #[.int .i64 e.seq, .int .i64 e.off, .int .i64 e.len, .int .i64 e.exp, .bool e.hit]) (.agg #[.int .i64 e.seq, .int .i64 e.off, .int .i64 e.len, .int .i64 e.exp, .bool e.hit])) w = .ok (.bool false) w := by
  have hS : Try.prog.underlying 36 = some (.struct (Try.prog.fieldsOf 36)) := by kernel_rfl
  have hp : Try.prog.stoodInHeld 36 = false := by kernel_rfl
  rw [run_neq_struct, show (10000 : Nat) = 9999 + 1 from rfl, run_equalIn_agg w 9999 36 _ _ hS hp]
  have u3 := Try.underlying3
  have a3 := Try.isAgg3
  have z3 := Try.sizeOf3
  have u4 := Try.underlying4
  have a4 := Try.isAgg4
  have z4 := Try.sizeOf4
  simp only [Program.fieldsOf, Try.underlying36]
  go_simp
set_option maxRecDepth 100000 in
theorem neqPr (k : ByteArray) (e : Ent) (w : World) : Sem.run Try.prog (binOp .neq 38 (.agg #[.string k, .int .i64 e.seq, .int .i64 e.off, .int .i64 e.len, .int .i64 e.exp, .bool e.hit]) (.agg #[.string k, .int .i64 e.seq, .int .i64 e.off, .int .i64 e.len, .int .i64 e.exp, .bool e.hit])) w = .ok (.bool false) w := by
  have hS : Try.prog.underlying 38 = some (.struct (Try.prog.fieldsOf 38)) := by kernel_rfl
  have hp : Try.prog.stoodInHeld 38 = false := by kernel_rfl
  have hS' : Try.prog.underlying 36 = some (.struct (Try.prog.fieldsOf 36)) := by kernel_rfl
  have hp' : Try.prog.stoodInHeld 36 = false := by kernel_rfl
  rw [run_neq_struct, show (10000 : Nat) = 9998 + 1 + 1 from rfl, run_equalIn_agg w (9998 + 1) 38 _ _ hS hp]
  have u3 := Try.underlying3
  have a3 := Try.isAgg3
  have z3 := Try.sizeOf3
  have u4 := Try.underlying4
  have a4 := Try.isAgg4
  have z4 := Try.sizeOf4
  have u9 := Try.underlying9
  have a9 := Try.isAgg9
  have z9 := Try.sizeOf9
  have a27 := Try.isAgg36
  have z27 := Try.sizeOf36
  have u27 := Try.underlying36
  clear hS hS'
  simp only [Program.fieldsOf, Try.underlying38]
  go_simp
end Go.Proofs.Ytbfkhghegkiifaa
