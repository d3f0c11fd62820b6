/-
  Keys cut to thirty bytes; a slice of strings as an argument.
-/
import Derived.Test.YtkjhofmimggpnaaRead2
namespace Go.Proofs.Ytkjhofmimggpnaa
open Go.RowKit Go.Maps Go.ChangeShapes Go.WideShapes Go.ChangeAt
set_option linter.unusedVariables false
def cutK (k : ByteArray) : ByteArray := if 30 < (k.size : Int) then k.extract 0 30 else k
theorem cut_cases (k : ByteArray) : (30 < (k.size : Int) ∧ cutK k = k.extract 0 30) ∨ ((k.size : Int) ≤ 30 ∧ cutK k = k) := by
  unfold cutK
  split
  · exact .inl ⟨by assumption, rfl⟩
  · exact .inr ⟨by omega, rfl⟩
theorem cutK_size (k : ByteArray) : (cutK k).size ≤ 30 := by
  rcases cut_cases k with ⟨_, h⟩ | ⟨_, h⟩
  · rw [h, ByteArray.size_extract]; omega
  · rw [h]; omega
theorem arg_strs {w : World} {base : Nat} {t e : TypeId} {v : Value} (ht : Try.prog.underlying t = some (.slice e)) (he : Try.prog.underlying e = some .string) (hC : Try.prog.cellsOf e = 1) (o : Value.okWide Try.prog w .any base t v) (r : Reads Try.prog w t v.cells.toList) :
    ∃ (a : Option Addr) (len cap : Nat) (ks : List ByteArray), v = .slice a len cap ∧ len ≤ cap ∧ cap ≤ maxLen ∧ (a = none → len = 0 ∧ cap = 0) ∧ ks.length = len ∧ Vals w a (ks.map Value.string) ∧ ∀ k ∈ ks, k.size ≤ maxLen := by
  obtain ⟨a', len', cap', rfl⟩ := okWide_slice ht o
  obtain ⟨a, len, cap, ks, h0, h⟩ := r.strs ht he hC
  simp [Value.cells] at h0
  obtain ⟨rfl, rfl, rfl⟩ := h0
  exact ⟨_, _, _, ks, rfl, h⟩
end Go.Proofs.Ytkjhofmimggpnaa
