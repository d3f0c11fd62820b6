/-
  Lists of pairs in memory: six cells each. The reference's list behind a pointer.
-/
import Derived.Test.YtbfkhghegkiifaaPairsPlain
import Derived.Test.YtbfkhghegkiifaaTabOb
import Derived.Test.YtbfkhghegkiifaaVals
import Derived.Maps.OwnSet
namespace Go.Proofs.Ytbfkhghegkiifaa
open Go.RowKit Go.Maps
set_option linter.unusedVariables false
def prC (p : Pr) : List Value := .string p.key :: entC p.en
def pairsC : List Pr → List Value
  | [] => []
  | p :: l => prC p ++ pairsC l
theorem prC_len (p : Pr) : (prC p).length = 6 := rfl
theorem pairsC_len (l : List Pr) : (pairsC l).length = l.length * 6 := by
  induction l with
  | nil => rfl
  | cons p l ih => simp only [pairsC, List.length_append, prC_len, ih, List.length_cons]; omega
theorem pairsC_append (l l' : List Pr) : pairsC (l ++ l') = pairsC l ++ pairsC l' := by
  induction l with
  | nil => rfl
  | cons p l ih => simp only [List.cons_append, pairsC, ih, List.append_assoc]
theorem pairsC_one (p : Pr) : pairsC [p] = prC p := by simp [pairsC]
theorem pairsC_at (l : List Pr) (i : Nat) (p : Pr) (h : l[i]? = some p) (j : Nat) (hj : j < 6) : (pairsC l)[i * 6 + j]? = (prC p)[j]? := by
  induction l generalizing i with
  | nil => simp at h
  | cons q l ih =>
    cases i with
    | zero =>
      simp at h; subst h
      rw [Nat.zero_mul, Nat.zero_add]
      show (prC q ++ pairsC l)[j]? = _
      rw [List.getElem?_append_left (by rw [prC_len]; exact hj)]
    | succ i =>
      have h' : l[i]? = some p := by simpa using h
      have := ih i h'
      show (prC q ++ pairsC l)[(i + 1) * 6 + j]? = _
      rw [List.getElem?_append_right (by rw [prC_len]; omega), prC_len, show (i + 1) * 6 + j - 6 = i * 6 + j from by omega]
      exact this
theorem pairsC_take (l : List Pr) (n : Nat) : pairsC (l.take n) = (pairsC l).take (n * 6) := by
  induction n generalizing l with
  | zero => simp [pairsC]
  | succ n ih =>
    cases l with
    | nil => simp [pairsC]
    | cons x l =>
      rw [List.take_succ_cons]
      simp only [pairsC, ih]
      rw [List.take_append, prC_len, List.take_of_length_le (l := prC x) (by rw [prC_len]; omega), show (n + 1) * 6 - 6 = n * 6 from by omega]
theorem pairsC_drop (l : List Pr) (n : Nat) : pairsC (l.drop n) = (pairsC l).drop (n * 6) := by
  induction n generalizing l with
  | zero => simp
  | succ n ih =>
    cases l with
    | nil => simp [pairsC]
    | cons x l =>
      rw [List.drop_succ_cons]
      simp only [pairsC, ih]
      rw [List.drop_append, prC_len, List.drop_of_length_le (l := prC x) (by rw [prC_len]; omega), show (n + 1) * 6 - 6 = n * 6 from by omega]
      simp
theorem pairsC_cell (l : List Pr) : ∀ u ∈ pairsC l, u.oneCell' = true := by
  induction l with
  | nil => simp [pairsC]
  | cons p l ih =>
    intro u hu
    simp only [pairsC, List.mem_append] at hu
    rcases hu with hu | hu
    · simp only [prC, entC, List.mem_cons, List.not_mem_nil, or_false] at hu
      rcases hu with rfl | rfl | rfl | rfl | rfl | rfl <;> rfl
    · exact ih u hu
theorem pairsC_set (l : List Pr) (i : Nat) (k : ByteArray) (e : Ent) (y : Pr) (hy : l[i]? = some y) (hk : y.key = k) : pairsC (l.set i ⟨k, e⟩) = (((((pairsC l).set (i * 6 + 1) (.int .i64 e.seq)).set (i * 6 + 2) (.int .i64 e.off)).set (i * 6 + 3) (.int .i64 e.len)).set (i * 6 + 4) (.int .i64 e.exp)).set (i * 6 + 5) (.bool e.hit) := by
  induction l generalizing i with
  | nil => simp at hy
  | cons q l ih =>
    cases i with
    | zero =>
      simp at hy; subst hy hk
      rfl
    | succ i =>
      have h' : l[i]? = some y := by simpa using hy
      have e1 : ∀ j, (i + 1) * 6 + j = (i * 6 + j) + 1 + 1 + 1 + 1 + 1 + 1 := fun j => by omega
      rw [List.set_cons_succ]
      show prC q ++ pairsC (l.set i ⟨k, e⟩) = _
      rw [ih i h', e1 1, e1 2, e1 3, e1 4, e1 5]
      rfl
/-- a pair's cells in memory -/
theorem Vals.pair {w : World} {a : Option Addr} {l : List Pr} (h : Vals w a (pairsC l)) (i : Nat) (p : Pr) (hp : l[i]? = some p) :
    ∃ g off, a = some ⟨g, off, none⟩ ∧ g < w.heap.size ∧ w.cell? ⟨g, off + i * 6, none⟩ = some (.string p.key) ∧ w.cell? ⟨g, off + i * 6 + 1, none⟩ = some (.int .i64 p.en.seq) ∧ w.cell? ⟨g, off + i * 6 + 2, none⟩ = some (.int .i64 p.en.off) ∧
      w.cell? ⟨g, off + i * 6 + 3, none⟩ = some (.int .i64 p.en.len) ∧ w.cell? ⟨g, off + i * 6 + 4, none⟩ = some (.int .i64 p.en.exp) ∧ w.cell? ⟨g, off + i * 6 + 5, none⟩ = some (.bool p.en.hit) := by
  have hi := (List.getElem?_eq_some_iff.1 hp).1
  obtain ⟨g, off, ha, hg, _⟩ := h (i * 6) (by rw [pairsC_len]; omega)
  have c : ∀ j, j < 6 → w.cell? ⟨g, off + (i * 6 + j), none⟩ = (prC p)[j]? := fun j hj => by
    obtain ⟨g', off', ha', _, hc⟩ := h (i * 6 + j) (by rw [pairsC_len]; omega)
    rw [ha] at ha'
    cases ha'
    rw [hc, pairsC_at l i p hp j hj]
  exact ⟨g, off, ha, hg, c 0 (by omega), c 1 (by omega), c 2 (by omega), c 3 (by omega), c 4 (by omega), c 5 (by omega)⟩
theorem own_base {w : World} {base base' : Nat} {e : TypeId} {size : Nat} {v : Value} {k : Nat} {xs : List Value} (h : w.ownsRow base e size v k xs) (hb : base' ≤ base) : w.ownsRow base' e size v k xs := by
  refine ⟨h.1, ?_⟩
  rcases h.2 with hn | ⟨g, cap, cur, hv, hbg, rest⟩
  · exact .inl hn
  · exact .inr ⟨g, cap, cur, hv, Nat.le_trans hb hbg, rest⟩
theorem prinfo : (Try.prog.info? 38).map (fun i => (i.zero, i.size, i.bytes)) = some (some (.agg #[.string ByteArray.empty, .int .i64 0, .int .i64 0, .int .i64 0, .int .i64 0, .bool false]), 6, 56) := by kernel_rfl
theorem one6 (k : ByteArray) (e : Ent) : ∀ u ∈ [Value.string k, .int .i64 e.seq, .int .i64 e.off, .int .i64 e.len, .int .i64 e.exp, .bool e.hit], u.oneCell' = true := by
  intro u hu
  simp only [List.mem_cons, List.not_mem_nil, or_false] at hu
  rcases hu with rfl | rfl | rfl | rfl | rfl | rfl <;> rfl
/-! how an entry reads in a map -/
def entR : Value → Option (DataW Ent × List MemPlace)
  | .agg xs => match xs.toList with
    | [.int .i64 a, .int .i64 b, .int .i64 c, .int .i64 d, .bool h] => some (.held ⟨a, b, c, d, h⟩, [])
    | _ => none
  | _ => none
theorem entR_mk (e : Ent) : entR (entV e) = some (.held e, []) := rfl
theorem entR_inv {v : Value} {d : DataW Ent} {ps : List MemPlace} (h : entR v = some (d, ps)) : ∃ e, v = entV e ∧ d = .held e := by
  unfold entR at h
  split at h
  · rename_i xs
    split at h
    · rename_i a b c d' hh hx
      cases h
      refine ⟨⟨a, b, c, d', hh⟩, ?_, rfl⟩
      have : xs = #[.int .i64 a, .int .i64 b, .int .i64 c, .int .i64 d', .bool hh] := by
        rw [← Array.toArray_toList (xs := xs), hx]
      rw [this]
    · cases h
  · cases h
end Go.Proofs.Ytbfkhghegkiifaa
