/-
  Regions that can be read.
-/
import Derived.Test.YtkafffoaaklhiaaFree
namespace Go.Proofs.Ytkafffoaaklhiaa
open Go.RowKit Go.ChangeShapes Go.WideShapes
theorem Reads.hdr {w : World} {cs : List Value} (h : Reads Try.prog w 34 cs) : ∃ a b c d e f : Int, cs = [Value.int .i64 a, .int .i64 b, .int .i64 c, .int .i64 d, .int .i64 e, .int .i64 f] := by
  obtain ⟨hl, hf⟩ := h.struct Try.underlying34
  rw [show Try.prog.cellsOf 34 = 6 from by kernel_rfl] at hl
  match cs, hl with
  | [x0, x1, x2, x3, x4, x5], _ =>
    simp only [List.mem_cons, List.not_mem_nil, or_false, forall_eq_or_imp, forall_eq, show Try.prog.cellsOf 3 = 1 from by kernel_rfl] at hf
    obtain ⟨f0, f1, f2, f3, f4, f5⟩ := hf
    obtain ⟨n0, e0, _⟩ := f0.int Try.underlying3
    obtain ⟨n1, e1, _⟩ := f1.int Try.underlying3
    obtain ⟨n2, e2, _⟩ := f2.int Try.underlying3
    obtain ⟨n3, e3, _⟩ := f3.int Try.underlying3
    obtain ⟨n4, e4, _⟩ := f4.int Try.underlying3
    obtain ⟨n5, e5, _⟩ := f5.int Try.underlying3
    simp at e0 e1 e2 e3 e4 e5
    subst e0 e1 e2 e3 e4 e5
    exact ⟨n0, n1, n2, n3, n4, n5, rfl⟩
theorem Reads.reg {w : World} {cs : List Value} (h : Reads Try.prog w 36 cs) : ∃ r : Reg, cs = r.cells := by
  obtain ⟨hl, hf⟩ := h.struct Try.underlying36
  rw [show Try.prog.cellsOf 36 = 10 from by kernel_rfl] at hl
  simp only [List.mem_cons, List.not_mem_nil, or_false, forall_eq_or_imp, forall_eq, show Try.prog.cellsOf 34 = 6 from by kernel_rfl, show Try.prog.cellsOf 23 = 4 from by kernel_rfl] at hf
  obtain ⟨f0, f1⟩ := hf
  obtain ⟨a, b, c, d, e, f, e0⟩ := f0.hdr
  obtain ⟨l, e1, _⟩ := f1.lay
  refine ⟨⟨a, b, c, d, e, f, l⟩, ?_⟩
  match cs, hl with
  | [x0, x1, x2, x3, x4, x5, x6, x7, x8, x9], _ =>
    simp [Lay.cells] at e0 e1
    simp [Reg.cells, e0, e1]
theorem arg_regs {w : World} {base : Nat} {v : Value} (o : Value.okWide Try.prog w .any base 24 v) (r : Reads Try.prog w 24 v.cells.toList) :
    ∃ a len cap f, v = .slice a len cap ∧ len ≤ cap ∧ cap ≤ 9223372036854775807 ∧ RegsAt w a len f := by
  obtain ⟨a, len, cap, g, rfl, h1, h2, h3, h4, h5⟩ := arg_rows Try.underlying24 (show Try.prog.cellsOf 36 = 10 from by kernel_rfl) (by omega) o r
  have key : ∀ i, ∃ r : Reg, i < len → g i = r.cells := by
    intro i
    by_cases hi : i < len
    · obtain ⟨r, hr⟩ := (h5 i hi).2.reg
      exact ⟨r, fun _ => hr⟩
    · exact ⟨⟨0, 0, 0, 0, 0, 0, ⟨0, 0, 0, 0⟩⟩, fun h => (hi h).elim⟩
  obtain ⟨f, hf⟩ := Classical.axiomOfChoice key
  refine ⟨a, len, cap, f, rfl, h1, h2, fun i hi => ?_⟩
  obtain ⟨b, off, ha, hlt, hc⟩ := h4 i hi
  exact ⟨b, off, ha, hlt, fun j hj => by rw [hc j hj, hf i hi]⟩
end Go.Proofs.Ytkafffoaaklhiaa
