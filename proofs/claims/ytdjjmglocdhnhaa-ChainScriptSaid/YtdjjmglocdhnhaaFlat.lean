/-
  Lists of rows, laid flat.
-/
import Derived.Test.YtdjjmglocdhnhaaVals
namespace Go.Proofs.Ytdjjmglocdhnhaa
open Go.RowKit
set_option linter.unusedVariables false
theorem flat_len {α : Type} (g : α → List Value) (C : Nat) (hC : ∀ x, (g x).length = C) (l : List α) : (l.flatMap g).length = l.length * C := by
  induction l with
  | nil => simp
  | cons x l ih => rw [List.flatMap_cons, List.length_append, hC, ih, List.length_cons, Nat.add_mul]; omega
theorem flat_at {α : Type} (g : α → List Value) (C : Nat) (hC : ∀ x, (g x).length = C) (l : List α) (i : Nat) (x : α) (h : l[i]? = some x) (j : Nat) (hj : j < C) : (l.flatMap g)[i * C + j]? = (g x)[j]? := by
  induction l generalizing i with
  | nil => simp at h
  | cons q l ih =>
    rw [List.flatMap_cons]
    cases i with
    | zero =>
      simp at h; subst h
      rw [Nat.zero_mul, Nat.zero_add, List.getElem?_append_left (by rw [hC]; exact hj)]
    | succ i =>
      rw [List.getElem?_append_right (by rw [hC, Nat.add_mul]; omega), hC, show (i + 1) * C + j - C = i * C + j from by rw [Nat.add_mul]; omega]
      exact ih i (by simpa using h)
theorem Vals.row {w : World} {a : Option Addr} {α : Type} {g : α → List Value} {C : Nat} (hC : ∀ x, (g x).length = C) (h0 : 0 < C) {l : List α} (h : Vals w a (l.flatMap g)) (i : Nat) (x : α) (hx : l[i]? = some x) :
    ∃ b off, a = some ⟨b, off, none⟩ ∧ b < w.heap.size ∧ ∀ j, j < C → w.cell? ⟨b, off + (i * C + j), none⟩ = (g x)[j]? := by
  have hi := (List.getElem?_eq_some_iff.1 hx).1
  have hl := flat_len g C hC l
  have hlt : ∀ j, j < C → i * C + j < (l.flatMap g).length := fun j hj => by
    rw [hl]
    have : (i + 1) * C ≤ l.length * C := Nat.mul_le_mul_right _ hi
    rw [Nat.add_mul] at this
    omega
  obtain ⟨b, off, ha, hb, _⟩ := h (i * C + 0) (hlt 0 h0)
  refine ⟨b, off, ha, hb, fun j hj => ?_⟩
  obtain ⟨b', off', ha', _, hc⟩ := h (i * C + j) (hlt j hj)
  rw [ha] at ha'
  cases ha'
  rw [hc, flat_at g C hC l i x hx j hj]
theorem take_snoc' {α : Type} (l : List α) (k : Nat) (x : α) (h : l[k]? = some x) : l.take (k + 1) = l.take k ++ [x] := by
  rw [List.take_add_one, h]; rfl
theorem heap_two (w : World) (o o' : Obj) : ((w.alloc o).alloc o').heap[w.heap.size + 1]? = some o' := by
  show ((w.heap.push _).push _)[w.heap.size + 1]? = _
  rw [Array.getElem?_push, Array.size_push, if_pos rfl]
theorem own_base {w : World} {base base' : Nat} {e : TypeId} {size : Nat} {v : Value} {k : Nat} {xs : List Value} (h : w.ownsRow base e size v k xs) (hb : base' ≤ base) : w.ownsRow base' e size v k xs := by
  refine ⟨h.1, ?_⟩
  rcases h.2 with hn | ⟨g, cap, cur, hv, hbg, rest⟩
  · exact .inl hn
  · exact .inr ⟨g, cap, cur, hv, Nat.le_trans hb hbg, rest⟩
end Go.Proofs.Ytdjjmglocdhnhaa
