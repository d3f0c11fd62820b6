/-
  The table in memory; the contract of put.
-/
import Derived.Test.YtbfkhghegkiifaaTabFind
import Derived.Test.YtbfkhghegkiifaaFrame
import Derived.BigRegion
namespace Go.Proofs.Ytbfkhghegkiifaa
open Go.RowKit
set_option linter.unusedVariables false
structure Tab where
  nb : Nat
  now : List Pl
  ob : Nat
  old : List Pl
  at' : Nat
  oldLen : Nat
  nowLen : Nat
  work : Nat
def tabC (T : Tab) (vn vo : Value) : Array Value := #[.int .i64 (T.nb : Int), vn, .int .i64 (T.ob : Int), vo, .int .i64 (T.at' : Int), .int .i64 (T.oldLen : Int), .int .i64 (T.nowLen : Int), .int .i64 (T.work : Int)]
structure Tb (w : World) (tb : Nat) (vn vo : Value) (T : Tab) : Prop where
  blk : w.heap[tb]? = some (.cells (tabC T vn vo) 64 (0, 0))
  now : w.ownsRow 0 71 7 vn T.now.length (placesC T.now)
  old : w.ownsRow 0 71 7 vo T.old.length (placesC T.old)
  ne : ∀ g, vn.ownBlock = some g → vo.ownBlock ≠ some g
  nn : vn.ownBlock ≠ some tb
  no : vo.ownBlock ≠ some tb
def tfoot (tb : Nat) (vn vo : Value) : Nat → Prop := fun k => k = tb ∨ vn.ownBlock = some k ∨ vo.ownBlock = some k
theorem Tb.frame {w w' : World} {tb : Nat} {vn vo : Value} {T : Tab} {S : Nat → Prop} (h : Tb w tb vn vo T) (hf : Fr S w w') (hS : ∀ k, tfoot tb vn vo k → ¬ S k) : Tb w' tb vn vo T :=
  ⟨(hf.block tb (blk_lt h.blk) (hS tb (.inl rfl))).trans h.blk, own_fr h.now hf (fun g hg => hS g (.inr (.inl hg))), own_fr h.old hf (fun g hg => hS g (.inr (.inr hg))), h.ne, h.nn, h.no⟩
theorem Tb.below {w w' : World} {tb : Nat} {vn vo : Value} {T : Tab} (h : Tb w tb vn vo T) (hb : Below w.heap.size w w') : Tb w' tb vn vo T := h.frame (S := fun _ => False) (.of_below hb) (fun _ _ f => f)
theorem Tb.lt {w : World} {tb : Nat} {vn vo : Value} {T : Tab} (h : Tb w tb vn vo T) : ∀ k, tfoot tb vn vo k → k < w.heap.size := by
  rintro k (rfl | e | e)
  · exact blk_lt h.blk
  · exact (h.now.lt k e).2
  · exact (h.old.lt k e).2
/-- one place is written -/
def set7 (w : World) (g i : Nat) (p : Pl) : World :=
  ((((((w.setCell ⟨g, i * 7, none⟩ (.int .i64 (p.st : Int))).setCell ⟨g, i * 7 + 1, none⟩ (.string p.key)).setCell ⟨g, i * 7 + 2, none⟩ (.int .i64 p.en.seq)).setCell ⟨g, i * 7 + 3, none⟩ (.int .i64 p.en.off)).setCell ⟨g, i * 7 + 4, none⟩ (.int .i64 p.en.len)).setCell ⟨g, i * 7 + 5, none⟩ (.int .i64 p.en.exp)).setCell ⟨g, i * 7 + 6, none⟩ (.bool p.en.hit)
theorem placesC_set (l : List Pl) (i : Nat) (p : Pl) : placesC (l.set i p) = (((((((placesC l).set (i * 7) (.int .i64 (p.st : Int))).set (i * 7 + 1) (.string p.key)).set (i * 7 + 2) (.int .i64 p.en.seq)).set (i * 7 + 3) (.int .i64 p.en.off)).set (i * 7 + 4) (.int .i64 p.en.len)).set (i * 7 + 5) (.int .i64 p.en.exp)).set (i * 7 + 6) (.bool p.en.hit) := by
  induction l generalizing i with
  | nil => simp [placesC]
  | cons q l ih =>
    cases i with
    | zero => rfl
    | succ i =>
      have e : ∀ j, (i + 1) * 7 + j = (i * 7 + j) + 1 + 1 + 1 + 1 + 1 + 1 + 1 := fun j => by omega
      have e0 : (i + 1) * 7 = (i * 7) + 1 + 1 + 1 + 1 + 1 + 1 + 1 := by omega
      rw [List.set_cons_succ]
      show plC q ++ placesC (l.set i p) = _
      rw [ih, e 1, e 2, e 3, e 4, e 5, e 6, e0]
      rfl
theorem grown_tr7 {a b c : World} {r : Option Nat} (h : a.grownBy b r) (k : b.grownBy c r) : a.grownBy c r :=
  ⟨k.os.trans h.os, k.tape.trans h.tape, k.output.trans h.output, Nat.le_trans h.size k.size, fun j hj hne => (k.block j (Nat.lt_of_lt_of_le hj h.size) hne).trans (h.block j hj hne)⟩
theorem own_set7 {w : World} {g cap n : Nat} {l : List Pl} (h : w.ownsRow 0 71 7 (.slice (some ⟨g, 0, none⟩) n cap) n (placesC l)) (i : Nat) (p : Pl) :
    (set7 w g i p).ownsRow 0 71 7 (.slice (some ⟨g, 0, none⟩) n cap) n (placesC (l.set i p)) ∧ w.grownBy (set7 w g i p) (some g) := by
  obtain ⟨s0, g0⟩ := h.stored (i * 7) (.int .i64 (p.st : Int))
  obtain ⟨s1, g1⟩ := s0.stored (i * 7 + 1) (.string p.key)
  obtain ⟨s2, g2⟩ := s1.stored (i * 7 + 2) (.int .i64 p.en.seq)
  obtain ⟨s3, g3⟩ := s2.stored (i * 7 + 3) (.int .i64 p.en.off)
  obtain ⟨s4, g4⟩ := s3.stored (i * 7 + 4) (.int .i64 p.en.len)
  obtain ⟨s5, g5⟩ := s4.stored (i * 7 + 5) (.int .i64 p.en.exp)
  obtain ⟨s6, g6⟩ := s5.stored (i * 7 + 6) (.bool p.en.hit)
  rw [placesC_set]
  exact ⟨s6, grown_tr7 (grown_tr7 (grown_tr7 (grown_tr7 (grown_tr7 (grown_tr7 g0 g1) g2) g3) g4) g5) g6⟩
/-- the cells of one place -/
theorem own_cells {w : World} {g cap n : Nat} {l : List Pl} (h : w.ownsRow 0 71 7 (.slice (some ⟨g, 0, none⟩) n cap) n (placesC l)) (i : Nat) (p : Pl) (hp : l[i]? = some p) :
    (w.cell? ⟨g, i * 7, none⟩ = some (.int .i64 (p.st : Int)) ∧ w.cell? ⟨g, i * 7 + 1, none⟩ = some (.string p.key) ∧ w.cell? ⟨g, i * 7 + 2, none⟩ = some (.int .i64 p.en.seq) ∧ w.cell? ⟨g, i * 7 + 3, none⟩ = some (.int .i64 p.en.off) ∧
      w.cell? ⟨g, i * 7 + 4, none⟩ = some (.int .i64 p.en.len) ∧ w.cell? ⟨g, i * 7 + 5, none⟩ = some (.int .i64 p.en.exp) ∧ w.cell? ⟨g, i * 7 + 6, none⟩ = some (.bool p.en.hit)) ∧
    (w.frozen? ⟨g, i * 7, none⟩ = false ∧ w.frozen? ⟨g, i * 7 + 1, none⟩ = false ∧ w.frozen? ⟨g, i * 7 + 2, none⟩ = false ∧ w.frozen? ⟨g, i * 7 + 3, none⟩ = false ∧ w.frozen? ⟨g, i * 7 + 4, none⟩ = false ∧ w.frozen? ⟨g, i * 7 + 5, none⟩ = false ∧ w.frozen? ⟨g, i * 7 + 6, none⟩ = false) := by
  have hi := (List.getElem?_eq_some_iff.1 hp).1
  have hl : (placesC l).length = n * 7 := h.1
  rw [placesC_len] at hl
  have c : ∀ j, j < 7 → w.cell? ⟨g, i * 7 + j, none⟩ = (plC p)[j]? := fun j hj => by
    rw [h.cellAt (i * 7 + j) (by omega), placesC_at l i p hp j hj]
  refine ⟨⟨c 0 (by omega), c 1 (by omega), c 2 (by omega), c 3 (by omega), c 4 (by omega), c 5 (by omega), c 6 (by omega)⟩, h.frozenAt _, h.frozenAt _, h.frozenAt _, h.frozenAt _, h.frozenAt _, h.frozenAt _, h.frozenAt _⟩
theorem own_slice7 {w : World} {v : Value} {l : List Pl} (h : w.ownsRow 0 71 7 v l.length (placesC l)) (hl : 0 < l.length) : ∃ g cap, v = .slice (some ⟨g, 0, none⟩) l.length cap ∧ l.length ≤ cap := by
  rcases h.2 with ⟨rfl, h0⟩ | ⟨g, cap, cur, hv, _, _, h1, _⟩
  · omega
  · exact ⟨g, cap, hv, h1⟩
end Go.Proofs.Ytbfkhghegkiifaa
