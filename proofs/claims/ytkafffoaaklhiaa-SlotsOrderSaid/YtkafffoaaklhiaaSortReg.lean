/-
  The stable order of regions by their numbers: plain laws; regions in memory.
-/
import Derived.Test.YtkafffoaaklhiaaFree2
import Derived.Test.YtkafffoaaklhiaaFrame
import Derived.Test.YtkafffoaaklhiaaVals
import Derived.Test.YtkafffoaaklhiaaCmp
namespace Go.Proofs.Ytkafffoaaklhiaa
open Go.RowKit
set_option linter.unusedVariables false
def insR : List Reg → Reg → List Reg
  | [], r => [r]
  | x :: l, r => if r.seq < x.seq then r :: x :: l else x :: insR l r
def sortR (l : List Reg) : List Reg := l.foldl insR []
theorem insR_len (l : List Reg) (r : Reg) : (insR l r).length = l.length + 1 := by
  induction l with
  | nil => rfl
  | cons x l ih => unfold insR; split <;> simp [ih]
theorem insR_perm (l : List Reg) (r : Reg) : (insR l r).Perm (r :: l) := by
  induction l with
  | nil => exact .refl _
  | cons x l ih =>
    unfold insR
    split
    · exact .refl _
    · exact ((ih.cons x).trans (.swap r x l))
def SortedR (l : List Reg) : Prop := l.Pairwise (fun a b => a.seq ≤ b.seq)
theorem insR_sorted {l : List Reg} (r : Reg) (h : SortedR l) : SortedR (insR l r) := by
  unfold SortedR at *
  induction l with
  | nil => simp [insR]
  | cons x l ih =>
    rw [List.pairwise_cons] at h
    unfold insR
    split
    · rename_i hlt
      rw [List.pairwise_cons, List.pairwise_cons]
      refine ⟨fun y hy => ?_, h⟩
      rcases List.mem_cons.1 hy with rfl | hy
      · omega
      · have := h.1 y hy; omega
    · rename_i hlt
      rw [List.pairwise_cons]
      refine ⟨fun y hy => ?_, ih h.2⟩
      rcases List.mem_cons.1 ((insR_perm l r).mem_iff.1 hy) with rfl | hy
      · omega
      · exact h.1 y hy
theorem sort_step (l : List Reg) (r : Reg) : sortR (l ++ [r]) = insR (sortR l) r := by unfold sortR; rw [List.foldl_append]; rfl
theorem sort_acc (l : List Reg) : ∀ acc, SortedR acc → SortedR (l.foldl insR acc) ∧ (l.foldl insR acc).Perm (acc ++ l) := by
  induction l with
  | nil => intro acc h; exact ⟨h, by simp⟩
  | cons r l ih =>
    intro acc h
    obtain ⟨h1, h2⟩ := ih (insR acc r) (insR_sorted r h)
    refine ⟨h1, h2.trans ?_⟩
    exact ((insR_perm acc r).append_right l).trans List.perm_middle.symm
theorem sort_all (l : List Reg) : SortedR (sortR l) ∧ (sortR l).Perm l ∧ (sortR l).length = l.length := by
  obtain ⟨h1, h2⟩ := sort_acc l [] .nil
  exact ⟨h1, by simpa [sortR] using h2, by have := h2.length_eq; simpa [sortR] using this⟩
/-- the place of r is found from the right -/
theorem ins_at {S : List Reg} {r : Reg} (h : SortedR S) : ∀ (j : Nat), j ≤ S.length → (∀ x ∈ S.drop j, r.seq < x.seq) → (∀ x ∈ S.take j, x.seq ≤ r.seq) → S.take j ++ r :: S.drop j = insR S r := by
  induction S with
  | nil => intro j hj _ _; simp at hj; subst hj; rfl
  | cons x S ih =>
    intro j hj h1 h2
    cases j with
    | zero =>
      have := h1 x (by simp)
      simp only [List.take_zero, List.drop_zero, List.nil_append]
      unfold insR
      rw [if_pos this]
    | succ j =>
      have := h2 x (by simp)
      rw [List.take_succ_cons, List.drop_succ_cons, List.cons_append]
      rw [ih (List.pairwise_cons.1 h).2 j (by simpa using hj) (fun y hy => h1 y (by simpa using hy)) (fun y hy => h2 y (by rw [List.take_succ_cons]; exact List.mem_cons_of_mem _ hy))]
      conv => rhs; unfold insR
      rw [if_neg (by omega)]
theorem ins_stop {S : List Reg} {r : Reg} (h : SortedR S) (j : Nat) (x : Reg) (hx : S[j]? = some x) (hle : x.seq ≤ r.seq) : ∀ y ∈ S.take (j + 1), y.seq ≤ r.seq := by
  intro y hy
  obtain ⟨i, hi, e⟩ := List.getElem_of_mem hy
  rw [List.length_take] at hi
  rw [List.getElem_take] at e
  obtain ⟨hj, ex⟩ := List.getElem?_eq_some_iff.1 hx
  rcases Nat.lt_or_ge i j with hij | hij
  · have := List.pairwise_iff_getElem.1 h i j (by omega) hj hij
    rw [e, ex] at this
    omega
  · have : i = j := by omega
    subst this
    rw [ex] at e; subst e; exact hle
/-- the row in the midst of the inner loop: r has come down to j -/
def midR (S : List Reg) (r : Reg) (j : Nat) (rest : List Reg) : List Reg := S.take j ++ r :: S.drop j ++ rest
theorem midR_len (S : List Reg) (r : Reg) (j : Nat) (rest : List Reg) : (midR S r j rest).length = S.length + 1 + rest.length := by
  unfold midR; simp; omega
theorem midR_at {S : List Reg} {r x : Reg} {j : Nat} {rest : List Reg} (hx : S[j]? = some x) : (midR S r (j + 1) rest)[j + 1]? = some r ∧ (midR S r (j + 1) rest)[j]? = some x ∧ ((midR S r (j + 1) rest).set (j + 1) x).set j r = midR S r j rest := by
  obtain ⟨hj, ex⟩ := List.getElem?_eq_some_iff.1 hx
  have e : S = S.take j ++ x :: S.drop (j + 1) := by
    rw [← ex, List.getElem_cons_drop, List.take_append_drop]
  have hl : (S.take j).length = j := by rw [List.length_take]; omega
  have e2 : midR S r (j + 1) rest = S.take j ++ x :: r :: (S.drop (j + 1) ++ rest) := by
    unfold midR
    rw [List.take_add_one, hx]
    simp
  have e3 : midR S r j rest = S.take j ++ r :: x :: (S.drop (j + 1) ++ rest) := by
    unfold midR
    have : S.drop j = x :: S.drop (j + 1) := by rw [← ex, List.getElem_cons_drop]
    rw [this]; simp
  rw [e2, e3]
  refine ⟨?_, ?_, ?_⟩
  · rw [List.getElem?_append_right (by omega), hl]; simp
  · rw [List.getElem?_append_right (by omega), hl]; simp
  · rw [List.set_append_right _ _ (by omega), hl, List.set_append_right _ _ (by omega), hl]; simp
def regC : List Reg → List Value
  | [] => []
  | r :: l => r.cells ++ regC l
theorem reg_len (r : Reg) : r.cells.length = 10 := rfl
theorem regC_len (l : List Reg) : (regC l).length = l.length * 10 := by
  induction l with
  | nil => rfl
  | cons p l ih => simp only [regC, List.length_append, reg_len, ih, List.length_cons]; omega
theorem regC_at (l : List Reg) (i : Nat) (p : Reg) (h : l[i]? = some p) (j : Nat) (hj : j < 10) : (regC l)[i * 10 + j]? = p.cells[j]? := by
  induction l generalizing i with
  | nil => simp at h
  | cons q l ih =>
    cases i with
    | zero =>
      simp at h; subst h
      rw [Nat.zero_mul, Nat.zero_add]
      show (q.cells ++ regC l)[j]? = _
      rw [List.getElem?_append_left (by rw [reg_len]; exact hj)]
    | succ i =>
      have h' : l[i]? = some p := by simpa using h
      have := ih i h'
      show (q.cells ++ regC l)[(i + 1) * 10 + j]? = _
      rw [List.getElem?_append_right (by rw [reg_len]; omega), reg_len, show (i + 1) * 10 + j - 10 = i * 10 + j from by omega]
      exact this
theorem regC_app (l m : List Reg) : regC (l ++ m) = regC l ++ regC m := by
  induction l with
  | nil => rfl
  | cons p l ih => simp only [List.cons_append, regC, ih, List.append_assoc]
def set10 (w : World) (g i : Nat) (p : Reg) : World :=
  (((((((((w.setCell ⟨g, i * 10, none⟩ (.int .i64 p.ver)).setCell ⟨g, i * 10 + 1, none⟩ (.int .i64 p.slot)).setCell ⟨g, i * 10 + 2, none⟩ (.int .i64 p.lay)).setCell ⟨g, i * 10 + 3, none⟩ (.int .i64 p.seq)).setCell ⟨g, i * 10 + 4, none⟩ (.int .i64 p.tail)).setCell ⟨g, i * 10 + 5, none⟩ (.int .i64 p.now)).setCell ⟨g, i * 10 + 6, none⟩ (.int .i64 p.l.id)).setCell ⟨g, i * 10 + 7, none⟩ (.int .i64 p.l.ver)).setCell ⟨g, i * 10 + 8, none⟩ (.int .i64 p.l.rs)).setCell ⟨g, i * 10 + 9, none⟩ (.int .i64 p.l.rg)
theorem regC_set (l : List Reg) (i : Nat) (p : Reg) : regC (l.set i p) = ((((((((((regC l).set (i * 10) (.int .i64 p.ver)).set (i * 10 + 1) (.int .i64 p.slot)).set (i * 10 + 2) (.int .i64 p.lay)).set (i * 10 + 3) (.int .i64 p.seq)).set (i * 10 + 4) (.int .i64 p.tail)).set (i * 10 + 5) (.int .i64 p.now)).set (i * 10 + 6) (.int .i64 p.l.id)).set (i * 10 + 7) (.int .i64 p.l.ver)).set (i * 10 + 8) (.int .i64 p.l.rs)).set (i * 10 + 9) (.int .i64 p.l.rg) := by
  induction l generalizing i with
  | nil => simp [regC]
  | cons q l ih =>
    cases i with
    | zero => rfl
    | succ i =>
      have e : ∀ j, (i + 1) * 10 + j = (i * 10 + j) + 1 + 1 + 1 + 1 + 1 + 1 + 1 + 1 + 1 + 1 := fun j => by omega
      have e0 : (i + 1) * 10 = (i * 10) + 1 + 1 + 1 + 1 + 1 + 1 + 1 + 1 + 1 + 1 := by omega
      rw [List.set_cons_succ]
      show q.cells ++ regC (l.set i p) = _
      rw [ih, e 1, e 2, e 3, e 4, e 5, e 6, e 7, e 8, e 9, e0]
      rfl
theorem grown_trR {a b c : World} {r : Option Nat} (h : a.grownBy b r) (k : b.grownBy c r) : a.grownBy c r :=
  ⟨k.os.trans h.os, k.tape.trans h.tape, k.output.trans h.output, Nat.le_trans h.size k.size, fun j hj hne => (k.block j (Nat.lt_of_lt_of_le hj h.size) hne).trans (h.block j hj hne)⟩
theorem own_set10 {w : World} {g cap n : Nat} {l : List Reg} (h : w.ownsRow 0 36 10 (.slice (some ⟨g, 0, none⟩) n cap) n (regC l)) (i : Nat) (p : Reg) :
    (set10 w g i p).ownsRow 0 36 10 (.slice (some ⟨g, 0, none⟩) n cap) n (regC (l.set i p)) ∧ Fr (fun j => j = g) w (set10 w g i p) := by
  obtain ⟨s0, g0⟩ := h.stored (i * 10) (.int .i64 p.ver)
  obtain ⟨s1, g1⟩ := s0.stored (i * 10 + 1) (.int .i64 p.slot)
  obtain ⟨s2, g2⟩ := s1.stored (i * 10 + 2) (.int .i64 p.lay)
  obtain ⟨s3, g3⟩ := s2.stored (i * 10 + 3) (.int .i64 p.seq)
  obtain ⟨s4, g4⟩ := s3.stored (i * 10 + 4) (.int .i64 p.tail)
  obtain ⟨s5, g5⟩ := s4.stored (i * 10 + 5) (.int .i64 p.now)
  obtain ⟨s6, g6⟩ := s5.stored (i * 10 + 6) (.int .i64 p.l.id)
  obtain ⟨s7, g7⟩ := s6.stored (i * 10 + 7) (.int .i64 p.l.ver)
  obtain ⟨s8, g8⟩ := s7.stored (i * 10 + 8) (.int .i64 p.l.rs)
  obtain ⟨s9, g9⟩ := s8.stored (i * 10 + 9) (.int .i64 p.l.rg)
  rw [regC_set]
  exact ⟨s9, .of_grown (grown_trR (grown_trR (grown_trR (grown_trR (grown_trR (grown_trR (grown_trR (grown_trR (grown_trR g0 g1) g2) g3) g4) g5) g6) g7) g8) g9) (by rintro k e; cases e; rfl)⟩
/-- the cells of one region -/
theorem own_reg {w : World} {g cap n : Nat} {l : List Reg} (h : w.ownsRow 0 36 10 (.slice (some ⟨g, 0, none⟩) n cap) n (regC l)) (i : Nat) (p : Reg) (hp : l[i]? = some p) :
    (w.cell? ⟨g, i * 10, none⟩ = some (.int .i64 p.ver) ∧ w.cell? ⟨g, i * 10 + 1, none⟩ = some (.int .i64 p.slot) ∧ w.cell? ⟨g, i * 10 + 2, none⟩ = some (.int .i64 p.lay) ∧ w.cell? ⟨g, i * 10 + 3, none⟩ = some (.int .i64 p.seq) ∧ w.cell? ⟨g, i * 10 + 4, none⟩ = some (.int .i64 p.tail) ∧
      w.cell? ⟨g, i * 10 + 5, none⟩ = some (.int .i64 p.now) ∧ w.cell? ⟨g, i * 10 + 6, none⟩ = some (.int .i64 p.l.id) ∧ w.cell? ⟨g, i * 10 + 7, none⟩ = some (.int .i64 p.l.ver) ∧ w.cell? ⟨g, i * 10 + 8, none⟩ = some (.int .i64 p.l.rs) ∧ w.cell? ⟨g, i * 10 + 9, none⟩ = some (.int .i64 p.l.rg)) ∧
    ∀ j, w.frozen? ⟨g, j, none⟩ = false := by
  have hi := (List.getElem?_eq_some_iff.1 hp).1
  have hl : (regC l).length = n * 10 := h.1
  rw [regC_len] at hl
  have c : ∀ j, j < 10 → w.cell? ⟨g, i * 10 + j, none⟩ = p.cells[j]? := fun j hj => by
    rw [h.cellAt (i * 10 + j) (by omega), regC_at l i p hp j hj]
  exact ⟨⟨c 0 (by omega), c 1 (by omega), c 2 (by omega), c 3 (by omega), c 4 (by omega), c 5 (by omega), c 6 (by omega), c 7 (by omega), c 8 (by omega), c 9 (by omega)⟩, fun j => h.frozenAt j⟩
end Go.Proofs.Ytkafffoaaklhiaa
