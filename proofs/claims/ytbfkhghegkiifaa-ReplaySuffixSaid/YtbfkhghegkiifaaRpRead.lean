/-
  Batches that can be read.
-/
import Derived.Test.YtbfkhghegkiifaaRpShortW
import Derived.Test.YtbfkhghegkiifaaRead2
namespace Go.Proofs.Ytbfkhghegkiifaa
open Go.RowKit Go.WideShapes Go.ChangeShapes
set_option linter.unusedVariables false
/-- the bytes of a list of numbers -/
def bytesOf (zs : List Int) : ByteArray := ⟨(zs.map fun z => UInt8.ofNat z.toNat).toArray⟩
theorem bytesOf_size (zs : List Int) : (bytesOf zs).size = zs.length := by
  show ((zs.map _).toArray).size = _
  simp
theorem byV_of (zs : List Int) (h : ∀ z ∈ zs, (Lit.int .u8 z).wf = true) : byV (bytesOf zs) = zs.map (Value.int .u8) := by
  unfold byV bytesOf
  simp only [List.map_map]
  refine List.map_congr_left fun z hz => ?_
  have hw := h z hz
  simp [Lit.wf, IntKind.min, IntKind.max, IntKind.signed, IntKind.bits] at hw
  simp only [Function.comp]
  congr 1
  rw [UInt8.toNat_ofNat']
  omega
set_option maxRecDepth 100000 in
theorem Reads.bytes {w : World} {cs : List Value} (h : Reads Try.prog w 40 cs) :
    ∃ (a : Option Addr) (cap : Nat) (key : ByteArray), cs = [.slice a key.size cap] ∧ Vals w a (byV key) ∧ key.size ≤ cap ∧ cap ≤ 9223372036854775807 ∧ (a = none → cap = 0) := by
  obtain ⟨a, len, cap, zs, rfl, h1, h2, h3, h4, h5, h6⟩ := h.intsl Try.underlying40 Try.underlying5 (by kernel_rfl)
  refine ⟨a, cap, bytesOf zs, by rw [bytesOf_size, h4], by rw [byV_of zs h6]; exact h5, by rw [bytesOf_size]; omega, by unfold maxLen at h2; omega, fun e => (h3 e).2⟩
set_option maxRecDepth 100000 in
theorem Reads.rec' {w : World} {cs : List Value} (h : Reads Try.prog w 42 cs) :
    ∃ (kind exp : Int) (ka va : Option Addr) (kc vl vc : Nat) (key : ByteArray), cs = [.int .i64 kind, .slice ka key.size kc, .slice va vl vc, .int .i64 exp] ∧ Vals w ka (byV key) ∧ key.size ≤ kc ∧ kc ≤ 9223372036854775807 ∧ (ka = none → kc = 0) := by
  obtain ⟨hl, hf⟩ := h.struct Try.underlying42
  rw [show Try.prog.cellsOf 42 = 4 from by kernel_rfl] at hl
  match cs, hl with
  | [x0, x1, x2, x3], _ =>
    simp only [List.mem_cons, List.not_mem_nil, or_false, forall_eq_or_imp, forall_eq, show Try.prog.cellsOf 3 = 1 from by kernel_rfl, show Try.prog.cellsOf 40 = 1 from by kernel_rfl] at hf
    obtain ⟨f0, f1, f2, f3⟩ := hf
    obtain ⟨n0, e0, _⟩ := f0.int Try.underlying3
    obtain ⟨ka, kc, key, e1, h1, h2, h3, h4⟩ := f1.bytes
    obtain ⟨va, vc, val, e2, -⟩ := f2.bytes
    obtain ⟨n3, e3, _⟩ := f3.int Try.underlying3
    simp at e0 e1 e2 e3
    subst e0 e1 e2 e3
    exact ⟨n0, n3, ka, va, kc, val.size, vc, key, rfl, h1, h2, h3, h4⟩
set_option maxRecDepth 100000 in
theorem Reads.rawFd {w : World} {cs : List Value} (h : Reads Try.prog w 44 cs) : RawFd w cs := by
  obtain ⟨hl, hf⟩ := h.struct Try.underlying44
  rw [show Try.prog.cellsOf 44 = 6 from by kernel_rfl] at hl
  simp only [List.mem_cons, List.not_mem_nil, or_false, forall_eq_or_imp, forall_eq, show Try.prog.cellsOf 3 = 1 from by kernel_rfl, show Try.prog.cellsOf 42 = 4 from by kernel_rfl] at hf
  obtain ⟨f0, f1, f2⟩ := hf
  obtain ⟨n0, e0, _⟩ := f0.int Try.underlying3
  obtain ⟨n1, e1, _⟩ := f1.int Try.underlying3
  obtain ⟨kind, exp, ka, va, kc, vl, vc, key, e2, h2⟩ := f2.rec'
  match cs, hl with
  | [x0, x1, x2, x3, x4, x5], _ =>
    simp at e0 e1 e2
    obtain ⟨rfl, rfl, rfl, rfl⟩ := e2
    subst e0 e1
    exact ⟨n0, n1, kind, exp, ka, va, kc, vl, vc, key, rfl, h2⟩
set_option maxRecDepth 100000 in
theorem Reads.founds {w : World} {cs : List Value} (h : Reads Try.prog w 32 cs) : ∃ a len cap f, cs = [.slice a len cap] ∧ len ≤ 9223372036854775807 ∧ RowsAt w 6 a len f ∧ ∀ i, i < len → RawFd w (f i) := by
  obtain ⟨a, len, cap, f, rfl, h1, h2, _, h3, h4⟩ := h.rows Try.underlying32 (show Try.prog.cellsOf 44 = 6 from by kernel_rfl) (by omega)
  exact ⟨a, len, cap, f, rfl, by unfold maxLen at h2; omega, h3, fun i hi => (h4 i hi).2.rawFd⟩
set_option maxRecDepth 100000 in
theorem Reads.rawBt {w : World} {cs : List Value} (h : Reads Try.prog w 34 cs) : RawBt w cs := by
  obtain ⟨hl, hf⟩ := h.struct Try.underlying34
  rw [show Try.prog.cellsOf 34 = 2 from by kernel_rfl] at hl
  simp only [List.mem_cons, List.not_mem_nil, or_false, forall_eq_or_imp, forall_eq, show Try.prog.cellsOf 3 = 1 from by kernel_rfl, show Try.prog.cellsOf 32 = 1 from by kernel_rfl] at hf
  obtain ⟨f0, f1⟩ := hf
  obtain ⟨n0, e0, _⟩ := f0.int Try.underlying3
  obtain ⟨la, ll, lc, g, e1, h1, h2, h3⟩ := f1.founds
  match cs, hl with
  | [x0, x1], _ =>
    simp at e0 e1
    subst e0 e1
    exact ⟨n0, la, ll, lc, g, rfl, h1, h2, h3⟩
set_option maxRecDepth 100000 in
theorem arg_batches {w : World} {base : Nat} {v : Value} (o : Value.okWide Try.prog w .any base 22 v) (r : Reads Try.prog w 22 v.cells.toList) :
    ∃ a len cap, v = .slice a len cap ∧ len ≤ 9223372036854775807 ∧ RawBts w a len := by
  obtain ⟨a, len, cap, g, rfl, h1, h2, h3, h4, h5⟩ := arg_rows Try.underlying22 (show Try.prog.cellsOf 34 = 2 from by kernel_rfl) (by omega) o r
  exact ⟨a, len, cap, rfl, by omega, g, h4, fun i hi => (h5 i hi).2.rawBt⟩
end Go.Proofs.Ytbfkhghegkiifaa
