/-
  Lists of items in memory; the contract of swap.
-/
import Derived.Test.YtmbjkkoennadkaaHeap1
import Derived.BigRegion
namespace Go.Proofs.Ytmbjkkoennadkaa
open Go.RowKit
def itemCells : List Item → List Value
  | [] => []
  | x :: l => .string x.key :: .int .i64 x.at' :: itemCells l
theorem itemCells_length (l : List Item) : (itemCells l).length = l.length * 2 := by
  induction l with
  | nil => rfl
  | cons x l ih => simp [itemCells, ih]; omega
theorem itemCells_append (l l' : List Item) : itemCells (l ++ l') = itemCells l ++ itemCells l' := by
  induction l with
  | nil => rfl
  | cons x l ih => simp [itemCells, ih]
theorem itemCells_at (l : List Item) (i : Nat) (x : Item) (h : l[i]? = some x) : (itemCells l)[i * 2]? = some (.string x.key) ∧ (itemCells l)[i * 2 + 1]? = some (.int .i64 x.at') := by
  induction l generalizing i with
  | nil => simp at h
  | cons y l ih =>
    cases i with
    | zero => simp at h; subst h; exact ⟨rfl, rfl⟩
    | succ i =>
      have h' : l[i]? = some x := by simpa using h
      have := ih i h'
      rw [show (i + 1) * 2 = i * 2 + 1 + 1 from by omega]
      exact this
theorem itemCells_set (l : List Item) (i : Nat) (x : Item) : itemCells (l.set i x) = ((itemCells l).set (i * 2) (.string x.key)).set (i * 2 + 1) (.int .i64 x.at') := by
  induction l generalizing i with
  | nil => simp [itemCells]
  | cons y l ih =>
    cases i with
    | zero => rfl
    | succ i =>
      rw [show (i + 1) * 2 = i * 2 + 1 + 1 from by omega]
      simp [itemCells, ih]
def NoRes (e : Ending) : Prop := e = .returned (.tuple #[])
def swapL (l : List Item) (i k : Nat) : List Item :=
  match l[i]?, l[k]? with
  | some x, some y => (l.set i y).set k x
  | _, _ => l
theorem grown_tr {a b c : World} {r : Option Nat} (h : a.grownBy b r) (k : b.grownBy c r) : a.grownBy c r :=
  ⟨k.os.trans h.os, k.tape.trans h.tape, k.output.trans h.output, Nat.le_trans h.size k.size, fun j hj hne => (k.block j (Nat.lt_of_lt_of_le hj h.size) hne).trans (h.block j hj hne)⟩
theorem grown_drew' {w w' : World} {r : Option Nat} (h : w.grownBy w' r) : w.grownBy w'.drew r := ⟨h.os, h.tape, h.output, h.size, h.block⟩
set_option maxRecDepth 100000 in
set_option maxHeartbeats 2000000 in
theorem swap_ne (g cap base : Nat) (l : List Item) (i k : Nat) (x y : Item) (w : World) (_hn : l.length ≤ 9223372036854775807) (hx : l[i]? = some x) (hy : l[k]? = some y) (hik : i < k ∨ k < i)
    (h : w.ownsRow base 57 2 (.slice (some ⟨g, 0, none⟩) l.length cap) l.length (itemCells l)) :
    Calls Try.prog 25 #[.slice (some ⟨g, 0, none⟩) l.length cap, .int .i64 (i : Int), .int .i64 (k : Int)] w
      fun e w' => NoRes e ∧ w'.ownsRow base 57 2 (.slice (some ⟨g, 0, none⟩) l.length cap) l.length (itemCells (swapL l i k)) ∧ w.grownBy w' (some g) := by
  have hi : i < l.length := by rw [List.getElem?_eq_some_iff] at hx; exact hx.1
  have hk : k < l.length := by rw [List.getElem?_eq_some_iff] at hy; exact hy.1
  obtain ⟨x0, x1⟩ := itemCells_at l i x hx
  obtain ⟨y0, y1⟩ := itemCells_at l k y hy
  have a0 := h.cellAt (i * 2) (by omega)
  have a1 := h.cellAt (i * 2 + 1) (by omega)
  have b0 := h.cellAt (k * 2) (by omega)
  have b1 := h.cellAt (k * 2 + 1) (by omega)
  rw [x0] at a0; rw [x1] at a1; rw [y0] at b0; rw [y1] at b1
  have f0 := h.frozenAt (i * 2)
  have f1 := h.frozenAt (i * 2 + 1)
  have f2 := h.frozenAt (k * 2)
  have f3 := h.frozenAt (k * 2 + 1)
  have H := Lib.hid h
  have HX := Lib.hid hx
  have HY := Lib.hid hy
  clear h hx hy x0 x1 y0 y1
  have hii : (i : Int) < l.length := by omega
  have hkk : (k : Int) < l.length := by omega
  have ne0 : ¬ i * 2 = k * 2 := by omega
  have ne1 : ¬ i * 2 + 1 = k * 2 := by omega
  have ne2 : ¬ i * 2 = k * 2 + 1 := by omega
  have ne3 : ¬ k * 2 = i * 2 := by omega
  have ne4 : ¬ k * 2 + 1 = i * 2 := by omega
  have ne5 : ¬ k * 2 = i * 2 + 1 := by omega
  have ne6 : ¬ i = k := by omega
  go_enter Try.func25, Try.ntmps25
  go_wp2_with fail
  go_region
  go_end0
  obtain ⟨s1, g1⟩ := H.out.stored (i * 2) (.string y.key)
  obtain ⟨s2, g2⟩ := s1.stored (i * 2 + 1) (.int .i64 y.at')
  obtain ⟨s3, g3⟩ := s2.stored (k * 2) (.string x.key)
  obtain ⟨s4, g4⟩ := s3.stored (k * 2 + 1) (.int .i64 x.at')
  refine ⟨rfl, ?_, grown_drew' (grown_tr (grown_tr (grown_tr g1 g2) g3) g4)⟩
  have e : swapL l i k = (l.set i y).set k x := by unfold swapL; rw [HX.out, HY.out]
  rw [e, itemCells_set, itemCells_set]
  exact s4.drew
set_option maxRecDepth 100000 in
set_option maxHeartbeats 2000000 in
theorem swap_eq (g cap base : Nat) (l : List Item) (i : Nat) (x : Item) (w : World) (_hn : l.length ≤ 9223372036854775807) (hx : l[i]? = some x)
    (h : w.ownsRow base 57 2 (.slice (some ⟨g, 0, none⟩) l.length cap) l.length (itemCells l)) :
    Calls Try.prog 25 #[.slice (some ⟨g, 0, none⟩) l.length cap, .int .i64 (i : Int), .int .i64 (i : Int)] w
      fun e w' => NoRes e ∧ w'.ownsRow base 57 2 (.slice (some ⟨g, 0, none⟩) l.length cap) l.length (itemCells (swapL l i i)) ∧ w.grownBy w' (some g) := by
  have hi : i < l.length := by rw [List.getElem?_eq_some_iff] at hx; exact hx.1
  obtain ⟨x0, x1⟩ := itemCells_at l i x hx
  have a0 := h.cellAt (i * 2) (by omega)
  have a1 := h.cellAt (i * 2 + 1) (by omega)
  rw [x0] at a0; rw [x1] at a1
  have f0 := h.frozenAt (i * 2)
  have f1 := h.frozenAt (i * 2 + 1)
  have H := Lib.hid h
  have HX := Lib.hid hx
  clear h hx x0 x1
  have hii : (i : Int) < l.length := by omega
  go_enter Try.func25, Try.ntmps25
  go_wp2_with fail
  go_region
  go_end0
  obtain ⟨s1, g1⟩ := H.out.stored (i * 2) (.string x.key)
  obtain ⟨s2, g2⟩ := s1.stored (i * 2 + 1) (.int .i64 x.at')
  obtain ⟨s3, g3⟩ := s2.stored (i * 2) (.string x.key)
  obtain ⟨s4, g4⟩ := s3.stored (i * 2 + 1) (.int .i64 x.at')
  refine ⟨rfl, ?_, grown_drew' (grown_tr (grown_tr (grown_tr g1 g2) g3) g4)⟩
  have e : swapL l i i = (l.set i x).set i x := by unfold swapL; rw [HX.out]
  rw [e, itemCells_set, itemCells_set]
  exact s4.drew
theorem swapL_length (l : List Item) (i k : Nat) : (swapL l i k).length = l.length := by
  unfold swapL; split <;> simp
theorem swap25 (g cap base : Nat) (l : List Item) (i k : Nat) (w : World) (hn : l.length ≤ 9223372036854775807) (hi : i < l.length) (hk : k < l.length)
    (h : w.ownsRow base 57 2 (.slice (some ⟨g, 0, none⟩) l.length cap) l.length (itemCells l)) :
    Calls Try.prog 25 #[.slice (some ⟨g, 0, none⟩) l.length cap, .int .i64 (i : Int), .int .i64 (k : Int)] w
      fun e w' => NoRes e ∧ w'.ownsRow base 57 2 (.slice (some ⟨g, 0, none⟩) l.length cap) l.length (itemCells (swapL l i k)) ∧ w.grownBy w' (some g) := by
  by_cases hik : i = k
  · subst hik
    exact swap_eq g cap base l i l[i] w hn (List.getElem?_eq_getElem hi) h
  · exact swap_ne g cap base l i k l[i] l[k] w hn (List.getElem?_eq_getElem hi) (List.getElem?_eq_getElem hk) (by omega) h
end Go.Proofs.Ytmbjkkoennadkaa
