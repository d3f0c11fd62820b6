/-
  Calls on a table, read from an argument.
-/
import Derived.Test.YtkjhofmimggpnaaTabObj
import Derived.Test.YtkjhofmimggpnaaRead
namespace Go.Proofs.Ytkjhofmimggpnaa
open Go.RowKit Go.Maps Go.ChangeShapes Go.WideShapes Go.ChangeAt
set_option linter.unusedVariables false
structure Op16 where
  kd : Int
  ky : Int
  en : Ent
def Op16.cells (o : Op16) : List Value := [.int .i64 o.kd, .int .i64 o.ky, .int .i64 o.en.seq, .int .i64 o.en.off, .int .i64 o.en.len, .int .i64 o.en.exp, .bool o.en.hit]
theorem Reads.op16 {w : World} {cs : List Value} (h : Reads Try.prog w 35 cs) : ∃ o : Op16, cs = o.cells ∧ (Lit.int .i64 o.ky).wf = true ∧ (Lit.int .i64 o.kd).wf = true := by
  obtain ⟨hl, hf⟩ := h.struct Try.underlying35
  rw [show Try.prog.cellsOf 35 = 7 from by kernel_rfl] at hl
  match cs, hl with
  | [c0, c1, c2, c3, c4, c5, c6], _ =>
    simp only [List.mem_cons, List.not_mem_nil, or_false, forall_eq_or_imp, forall_eq, show Try.prog.cellsOf 3 = 1 from by kernel_rfl, show Try.prog.cellsOf 27 = 5 from by kernel_rfl] at hf
    obtain ⟨f0, f1, f2⟩ := hf
    obtain ⟨k, e0, hk⟩ := f0.int Try.underlying3
    obtain ⟨n, e1, hn⟩ := f1.int Try.underlying3
    obtain ⟨_, hf2⟩ := f2.struct Try.underlying27
    simp only [List.mem_cons, List.not_mem_nil, or_false, forall_eq_or_imp, forall_eq, show Try.prog.cellsOf 3 = 1 from by kernel_rfl, show Try.prog.cellsOf 4 = 1 from by kernel_rfl] at hf2
    obtain ⟨g0, g1, g2, g3, g4⟩ := hf2
    obtain ⟨x0, e2, _⟩ := g0.int Try.underlying3
    obtain ⟨x1, e3, _⟩ := g1.int Try.underlying3
    obtain ⟨x2, e4, _⟩ := g2.int Try.underlying3
    obtain ⟨x3, e5, _⟩ := g3.int Try.underlying3
    obtain ⟨x4, e6⟩ := g4.bool Try.underlying4
    simp at e0 e1 e2 e3 e4 e5 e6
    subst e0 e1 e2 e3 e4 e5 e6
    exact ⟨⟨k, n, ⟨x0, x1, x2, x3, x4⟩⟩, rfl, hn, hk⟩
/-- the operations lie in memory -/
def Ops (w : World) (a : Option Addr) (len : Nat) (f : Nat → Op16) : Prop := RowsAt w 7 a len (fun i => (f i).cells)
theorem Ops.below {w0 w : World} {a : Option Addr} {len : Nat} {f : Nat → Op16} (h : Ops w0 a len f) (hb : Below w0.heap.size w0 w) : Ops w a len f := RowsAt.below h hb (Nat.le_refl _)
theorem Ops.at {w : World} {a : Option Addr} {len : Nat} {f : Nat → Op16} (h : Ops w a len f) (i : Nat) (hi : i < len) : ∃ b off, a = some ⟨b, off, none⟩ ∧ b < w.heap.size ∧
    w.cell? ⟨b, off + i * 7, none⟩ = some (.int .i64 (f i).kd) ∧ w.cell? ⟨b, off + i * 7 + 1, none⟩ = some (.int .i64 (f i).ky) ∧ w.cell? ⟨b, off + i * 7 + 2, none⟩ = some (.int .i64 (f i).en.seq) ∧ w.cell? ⟨b, off + i * 7 + 3, none⟩ = some (.int .i64 (f i).en.off) ∧
    w.cell? ⟨b, off + i * 7 + 4, none⟩ = some (.int .i64 (f i).en.len) ∧ w.cell? ⟨b, off + i * 7 + 5, none⟩ = some (.int .i64 (f i).en.exp) ∧ w.cell? ⟨b, off + i * 7 + 6, none⟩ = some (.bool (f i).en.hit) := by
  obtain ⟨b, off, ha, hlt, hc⟩ := h i hi
  exact ⟨b, off, ha, hlt, hc 0 (by omega), hc 1 (by omega), hc 2 (by omega), hc 3 (by omega), hc 4 (by omega), hc 5 (by omega), hc 6 (by omega)⟩
theorem arg_ops {w : World} {base : Nat} {v : Value} (o : Value.okWide Try.prog w .any base 32 v) (r : Reads Try.prog w 32 v.cells.toList) :
    ∃ a len cap f, v = .slice a len cap ∧ len ≤ 9223372036854775807 ∧ (a = none → len = 0) ∧ Ops w a len f ∧ ∀ i, i < len → (Lit.int .i64 (f i).ky).wf = true := by
  obtain ⟨a, len, cap, g, rfl, h1, h2, h3, h4, h5⟩ := arg_rows Try.underlying32 (show Try.prog.cellsOf 35 = 7 from by kernel_rfl) (by omega) o r
  have key : ∀ i, ∃ o : Op16, i < len → g i = o.cells ∧ (Lit.int .i64 o.ky).wf = true := by
    intro i
    by_cases hi : i < len
    · obtain ⟨o, e, hn, _⟩ := (h5 i hi).2.op16
      exact ⟨o, fun _ => ⟨e, hn⟩⟩
    · exact ⟨⟨0, 0, ent0⟩, fun h => (hi h).elim⟩
  obtain ⟨f, hf⟩ := Classical.axiomOfChoice key
  refine ⟨a, len, cap, f, rfl, by omega, fun h => (h3 h).1, fun i hi => ?_, fun i hi => (hf i hi).2⟩
  obtain ⟨b, off, ha, hlt, hc⟩ := h4 i hi
  refine ⟨b, off, ha, hlt, fun j hj => ?_⟩
  rw [hc j hj, (hf i hi).1]
theorem and_self_pow (b : Nat) (hb : b ≤ 30) : bits .and .i64 ((2 ^ b : Nat) : Int) (((2 ^ b : Nat) : Int) - 1) = 0 := by
  have e : (((2 ^ b : Nat) : Int)) = (2 : Int) ^ b := by simp
  rw [e, and_pow _ b (by omega), Int.emod_self]
end Go.Proofs.Ytkjhofmimggpnaa
