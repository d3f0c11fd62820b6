/-
  The contract of Get.
-/
import Derived.Test.YtbfkhghegkiifaaTabSet
namespace Go.Proofs.Ytbfkhghegkiifaa
open Go.RowKit
set_option linter.unusedVariables false
def ent0 : Ent := ⟨0, 0, 0, 0, false⟩
structure GetI (T T' : Tab) (k : ByteArray) (b : Bool) (x : Ent) : Prop where
  ti : TI T'
  has : ∀ k' e', Has T' k' e' ↔ Has T k' e'
  tot : T'.tot = T.tot
  w8 : T'.work ≤ 8
  hit : b = true → Has T k x
  miss : b = false → (∀ e, ¬ Has T k e) ∧ x = ent0
def GetE (w : World) (tb : Nat) (vn vo : Value) (T : Tab) (k : ByteArray) (e' : Ending) (w' : World) : Prop :=
  ∃ b x vo' T', e' = .returned (.tuple #[entV x, .bool b]) ∧ Tb w' tb vn vo' T' ∧ St w w' tb vn vo vn vo' ∧ GetI T T' k b x
theorem get_now {w w1 : World} {tb i : Nat} {vn vo vo' : Value} {T T' : Tab} {k : ByteArray} {p : Pl} (h : MoveQ w w1 tb vn vo vo' T T') (f : FindR T'.now (homeN T'.nb k) k i true) (hp : T'.now[i]? = some p) : GetI T T' k true p.en := by
  obtain ⟨q, hq, hq1, hqk⟩ := find_true f
  rw [hp] at hq; cases hq
  exact ⟨h.ti, h.has, h.tot, h.w8, fun _ => (h.has _ _).1 (.inl ⟨i, p, hp, hq1, hqk, rfl⟩), fun e => by cases e⟩
theorem get_old {w w1 : World} {tb i : Nat} {vn vo vo' : Value} {T T' : Tab} {k : ByteArray} {p : Pl} (h : MoveQ w w1 tb vn vo vo' T T') (f : FindR T'.old (homeN T'.ob k) k i true) (hp : T'.old[i]? = some p) : GetI T T' k true p.en := by
  obtain ⟨q, hq, hq1, hqk⟩ := find_true f
  rw [hp] at hq; cases hq
  exact ⟨h.ti, h.has, h.tot, h.w8, fun _ => (h.has _ _).1 (.inr ⟨i, p, hp, hq1, hqk, rfl⟩), fun e => by cases e⟩
theorem get_miss {w w1 : World} {tb i : Nat} {vn vo vo' : Value} {T T' : Tab} {k : ByteArray} (h : MoveQ w w1 tb vn vo vo' T T') (f : FindR T'.now (homeN T'.nb k) k i false) (ho : ∀ e, ¬ HasK T'.old k e) : GetI T T' k false ent0 :=
  ⟨h.ti, h.has, h.tot, h.w8, fun e => (by cases e), fun _ => ⟨fun e hh => ((h.has k e).2 hh).elim (fun hh => find_none h.ti.inow f e hh) (ho e), rfl⟩⟩
theorem TI.old_find {T : Tab} (h : TI T) (h0 : 0 < T.oldLen) : Inv (homeN T.ob) T.old := (h.old_inv (List.getElem?_eq_getElem (h.at_lt h0))).2.2.2.1
def set5 (w : World) (b : Nat) (x : Ent) : World := ((((w.setCell ⟨b, 0, none⟩ (.int .i64 x.seq)).setCell ⟨b, 1, none⟩ (.int .i64 x.off)).setCell ⟨b, 2, none⟩ (.int .i64 x.len)).setCell ⟨b, 3, none⟩ (.int .i64 x.exp)).setCell ⟨b, 4, none⟩ (.bool x.hit)
theorem set5_cells {w : World} {b : Nat} {a0 a1 a2 a3 a4 : Value} (h : w.heap[b]? = some (.cells #[a0, a1, a2, a3, a4] 36 (0, 0))) (x : Ent) : (set5 w b x).cell? ⟨b, 0, none⟩ = some (.int .i64 x.seq) ∧ (set5 w b x).cell? ⟨b, 1, none⟩ = some (.int .i64 x.off) ∧ (set5 w b x).cell? ⟨b, 2, none⟩ = some (.int .i64 x.len) ∧ (set5 w b x).cell? ⟨b, 3, none⟩ = some (.int .i64 x.exp) ∧ (set5 w b x).cell? ⟨b, 4, none⟩ = some (.bool x.hit) := by
  have q : (set5 w b x).heap[b]? = some (.cells #[.int .i64 x.seq, .int .i64 x.off, .int .i64 x.len, .int .i64 x.exp, .bool x.hit] 36 (0, 0)) := by
    unfold set5
    rw [blk_set (blk_set (blk_set (blk_set (blk_set h _) _) _) _) _]
    rfl
  have x0 := blk_cell (i := 0) q; have x1 := blk_cell (i := 1) q; have x2 := blk_cell (i := 2) q; have x3 := blk_cell (i := 3) q; have x4 := blk_cell (i := 4) q
  simp only [List.getElem?_toArray, List.getElem?_cons_zero, List.getElem?_cons_succ] at x0 x1 x2 x3 x4
  exact ⟨x0, x1, x2, x3, x4⟩
theorem fr_set (w : World) (b i : Nat) (v : Value) : Fr (fun j => j = b) w (w.setCell ⟨b, i, none⟩ v) := ⟨rfl, rfl, rfl, by simp [World.setCell], fun k _ hne => Below.heap_setCell _ _ _ _ hne⟩
theorem get_end {w w2 : World} {tb : Nat} {vn vo vo1 : Value} {T T1 : Tab} {k : ByteArray} {b : Bool} {x : Ent} (st : St w w2 tb vn vo vn vo1) (t2 : Tb w2 tb vn vo1 T1) (xn : ¬ tfoot tb vn vo1 w.heap.size) (q : GetI T T1 k b x) :
    GetE w tb vn vo T k (.returned (.tuple #[entV x, .bool b])) (set5 w2 w.heap.size x) := by
  have hf : Fr (fun j => j = w.heap.size) w2 (set5 w2 w.heap.size x) := by
    unfold set5
    exact ((((fr_set _ _ _ _).trans (fr_set _ _ _ _) (fun j hj => .inl hj)).trans (fr_set _ _ _ _) (fun j hj => .inl hj)).trans (fr_set _ _ _ _) (fun j hj => .inl hj)).trans (fr_set _ _ _ _) (fun j hj => .inl hj)
  exact ⟨b, x, vo1, T1, rfl, t2.frame hf (fun k hk e => xn (by rw [← e]; exact hk)), ⟨st.own, st.fr.trans hf (fun j hj => .inr (by rw [hj]; exact Nat.le_refl _))⟩, q⟩
end Go.Proofs.Ytbfkhghegkiifaa
