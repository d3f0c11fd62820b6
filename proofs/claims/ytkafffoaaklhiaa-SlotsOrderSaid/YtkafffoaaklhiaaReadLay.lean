/-
  A layout that can be read: four integers.
-/
import Derived.Test.YtkafffoaaklhiaaRead
import Derived.Test.YtkafffoaaklhiaaForm
namespace Go.Proofs.Ytkafffoaaklhiaa
open Go.RowKit Go.WideShapes Go.ChangeShapes
def Lay.wf (l : Lay) : Prop := (Lit.int .i64 l.id).wf = true ∧ (Lit.int .i64 l.ver).wf = true ∧ (Lit.int .i64 l.rs).wf = true ∧ (Lit.int .i64 l.rg).wf = true
def Lay.cells (l : Lay) : List Value := [.int .i64 l.id, .int .i64 l.ver, .int .i64 l.rs, .int .i64 l.rg]
theorem Reads.lay {w : World} {cs : List Value} (h : Reads Try.prog w 23 cs) : ∃ l : Lay, cs = l.cells ∧ l.wf := by
  obtain ⟨hl, hf⟩ := h.struct Try.underlying23
  rw [show Try.prog.cellsOf 23 = 4 from by kernel_rfl] at hl
  match cs, hl with
  | [a, b, c, d], _ =>
    simp only [List.mem_cons, List.not_mem_nil, or_false, forall_eq_or_imp, forall_eq, show Try.prog.cellsOf 3 = 1 from by kernel_rfl] at hf
    obtain ⟨f0, f1, f2, f3⟩ := hf
    obtain ⟨n0, e0, w0⟩ := f0.int Try.underlying3
    obtain ⟨n1, e1, w1⟩ := f1.int Try.underlying3
    obtain ⟨n2, e2, w2⟩ := f2.int Try.underlying3
    obtain ⟨n3, e3, w3⟩ := f3.int Try.underlying3
    simp at e0 e1 e2 e3
    subst e0 e1 e2 e3
    exact ⟨⟨n0, n1, n2, n3⟩, rfl, w0, w1, w2, w3⟩
theorem arg_lay {w : World} {base : Nat} {v : Value} (o : Value.okWide Try.prog w .any base 23 v) (r : Reads Try.prog w 23 v.cells.toList) :
    ∃ l : Lay, v = .agg #[.int .i64 l.id, .int .i64 l.ver, .int .i64 l.rs, .int .i64 l.rg] ∧ l.wf := by
  obtain ⟨cs, rfl, _⟩ := okWide_struct Try.underlying23 o
  obtain ⟨l, hl, hw⟩ := r.lay
  refine ⟨l, ?_, hw⟩
  have : cs = l.cells.toArray := by rw [← hl]; simp [Value.cells]
  rw [this]; rfl
end Go.Proofs.Ytkafffoaaklhiaa
