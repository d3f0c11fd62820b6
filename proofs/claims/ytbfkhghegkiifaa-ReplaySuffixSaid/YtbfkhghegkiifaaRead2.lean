/-
  Slices of strings and of integers that can be read, also inside a struct.
-/
import Derived.Test.YtbfkhghegkiifaaRead
import Derived.Test.YtbfkhghegkiifaaVals
namespace Go.Proofs.Ytbfkhghegkiifaa
open Go.RowKit Go.WideShapes Go.ChangeShapes
theorem rows_vals {w : World} {a : Option Addr} {len : Nat} {f : Nat → List Value} {α : Type} (mk : α → Value) (g : Nat → α) (h : RowsAt w 1 a len f) (hf : ∀ i, i < len → f i = [mk (g i)]) : Vals w a (((List.range len).map g).map mk) := by
  intro i hi
  simp at hi
  obtain ⟨b, off, ha, hlt, hc⟩ := h i hi
  refine ⟨b, off, ha, hlt, ?_⟩
  have := hc 0 (by omega)
  rw [hf i hi] at this
  rw [List.getElem?_map, List.getElem?_map, List.getElem?_range hi]
  simpa using this
theorem Reads.strs {w : World} {t e : TypeId} {cs : List Value} (ht : Try.prog.underlying t = some (.slice e)) (he : Try.prog.underlying e = some .string) (hC : Try.prog.cellsOf e = 1) (h : Reads Try.prog w t cs) :
    ∃ (a : Option Addr) (len cap : Nat) (ks : List ByteArray), cs = [.slice a len cap] ∧ len ≤ cap ∧ cap ≤ maxLen ∧ (a = none → len = 0 ∧ cap = 0) ∧ ks.length = len ∧ Vals w a (ks.map Value.string) ∧ ∀ k ∈ ks, k.size ≤ maxLen := by
  obtain ⟨a, len, cap, f, rfl, h1, h2, h0, h3, h4⟩ := h.rows ht hC (by omega)
  have key : ∀ i, ∃ s : ByteArray, i < len → f i = [.string s] ∧ s.size ≤ maxLen := by
    intro i
    by_cases hi : i < len
    · obtain ⟨s, hs, hm⟩ := (h4 i hi).2.string he
      exact ⟨s, fun _ => ⟨hs, hm⟩⟩
    · exact ⟨ByteArray.empty, fun h => (hi h).elim⟩
  obtain ⟨g, hg⟩ := Classical.axiomOfChoice key
  refine ⟨a, len, cap, (List.range len).map g, rfl, h1, h2, h0, by simp, rows_vals Value.string g h3 (fun i hi => (hg i hi).1), fun k hk => ?_⟩
  obtain ⟨i, hi, rfl⟩ := List.mem_map.1 hk
  exact (hg i (by simpa using hi)).2
theorem Reads.intsl {w : World} {t e : TypeId} {k : IntKind} {cs : List Value} (ht : Try.prog.underlying t = some (.slice e)) (he : Try.prog.underlying e = some (.int k)) (hC : Try.prog.cellsOf e = 1) (h : Reads Try.prog w t cs) :
    ∃ (a : Option Addr) (len cap : Nat) (zs : List Int), cs = [.slice a len cap] ∧ len ≤ cap ∧ cap ≤ maxLen ∧ (a = none → len = 0 ∧ cap = 0) ∧ zs.length = len ∧ Vals w a (zs.map (Value.int k)) ∧ ∀ z ∈ zs, (Lit.int k z).wf = true := by
  obtain ⟨a, len, cap, f, rfl, h1, h2, h0, h3, h4⟩ := h.rows ht hC (by omega)
  have key : ∀ i, ∃ n : Int, i < len → f i = [.int k n] ∧ (Lit.int k n).wf = true := by
    intro i
    by_cases hi : i < len
    · obtain ⟨n, hn, hw⟩ := (h4 i hi).2.int he
      exact ⟨n, fun _ => ⟨hn, hw⟩⟩
    · exact ⟨0, fun h => (hi h).elim⟩
  obtain ⟨g, hg⟩ := Classical.axiomOfChoice key
  refine ⟨a, len, cap, (List.range len).map g, rfl, h1, h2, h0, by simp, rows_vals (Value.int k) g h3 (fun i hi => (hg i hi).1), fun z hz => ?_⟩
  obtain ⟨i, hi, rfl⟩ := List.mem_map.1 hz
  exact (hg i (by simpa using hi)).2
theorem Vals.str {w : World} {a : Option Addr} {ks : List ByteArray} (h : Vals w a (ks.map Value.string)) (i : Nat) (hi : i < ks.length) : ∃ b off, a = some ⟨b, off, none⟩ ∧ b < w.heap.size ∧ w.cell? ⟨b, off + i, none⟩ = some (.string (ks[i]?.getD ByteArray.empty)) :=
  h.at i (by rw [List.getElem?_map, List.getElem?_eq_getElem hi]; rfl)
theorem Vals.num {w : World} {a : Option Addr} {k : IntKind} {zs : List Int} (h : Vals w a (zs.map (Value.int k))) (i : Nat) (hi : i < zs.length) : ∃ b off, a = some ⟨b, off, none⟩ ∧ b < w.heap.size ∧ w.cell? ⟨b, off + i, none⟩ = some (.int k (zs[i]?.getD 0)) :=
  h.at i (by rw [List.getElem?_map, List.getElem?_eq_getElem hi]; rfl)
theorem all_getD {α : Type} {P : α → Prop} {l : List α} {d : α} (h : ∀ x ∈ l, P x) (i : Nat) (hi : i < l.length) : P (l[i]?.getD d) := by
  rw [List.getElem?_eq_getElem hi]; exact h _ (List.getElem_mem hi)
end Go.Proofs.Ytbfkhghegkiifaa
