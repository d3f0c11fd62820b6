/-
  The contract of Get.
-/
import Derived.Test.YtkjhofmimggpnaaTabSet
namespace Go.Proofs.Ytkjhofmimggpnaa
open Go.RowKit
set_option linter.unusedVariables false
def ent0 : Ent := ⟨0, 0, 0, 0, false⟩
structure GetI (T T' : Tab) (k : ByteArray) (b : Bool) (x : Ent) : Prop where
  ti : TI T'
  has : ∀ k' e', Has T' k' e' ↔ Has T k' e'
  tot : T'.tot = T.tot
  w8 : T'.work ≤ 8
  hit : b = true → Has T k x
  miss : b = false → (∀ e, ¬ Has T k e) ∧ x = ent0
def GetE (w : World) (tb : Nat) (vn vo : Value) (T : Tab) (k : ByteArray) (e' : Ending) (w' : World) : Prop :=
  ∃ b x vo' T', e' = .returned (.tuple #[entV x, .bool b]) ∧ Tb w' tb vn vo' T' ∧ St w w' tb vn vo vn vo' ∧ GetI T T' k b x
theorem get_now {w w1 : World} {tb i : Nat} {vn vo vo' : Value} {T T' : Tab} {k : ByteArray} {p : Pl} (h : MoveQ w w1 tb vn vo vo' T T') (f : FindR T'.now (homeN T'.nb k) k i true) (hp : T'.now[i]? = some p) : GetI T T' k true p.en := by
  obtain ⟨q, hq, hq1, hqk⟩ := find_true f
  rw [hp] at hq; cases hq
  exact ⟨h.ti, h.has, h.tot, h.w8, fun _ => (h.has _ _).1 (.inl ⟨i, p, hp, hq1, hqk, rfl⟩), fun e => by cases e⟩
theorem get_old {w w1 : World} {tb i : Nat} {vn vo vo' : Value} {T T' : Tab} {k : ByteArray} {p : Pl} (h : MoveQ w w1 tb vn vo vo' T T') (f : FindR T'.old (homeN T'.ob k) k i true) (hp : T'.old[i]? = some p) : GetI T T' k true p.en := by
  obtain ⟨q, hq, hq1, hqk⟩ := find_true f
  rw [hp] at hq; cases hq
  exact ⟨h.ti, h.has, h.tot, h.w8, fun _ => (h.has _ _).1 (.inr ⟨i, p, hp, hq1, hqk, rfl⟩), fun e => by cases e⟩
theorem get_miss {w w1 : World} {tb i : Nat} {vn vo vo' : Value} {T T' : Tab} {k : ByteArray} (h : MoveQ w w1 tb vn vo vo' T T') (f : FindR T'.now (homeN T'.nb k) k i false) (ho : ∀ e, ¬ HasK T'.old k e) : GetI T T' k false ent0 :=
  ⟨h.ti, h.has, h.tot, h.w8, fun e => (by cases e), fun _ => ⟨fun e hh => ((h.has k e).2 hh).elim (fun hh => find_none h.ti.inow f e hh) (ho e), rfl⟩⟩
theorem TI.old_find {T : Tab} (h : TI T) (h0 : 0 < T.oldLen) : Inv (homeN T.ob) T.old := (h.old_inv (List.getElem?_eq_getElem (h.at_lt h0))).2.2.2.1
def set5 (w : World) (b : Nat) (x : Ent) : World := ((((w.setCell ⟨b, 0, none⟩ (.int .i64 x.seq)).setCell ⟨b, 1, none⟩ (.int .i64 x.off)).setCell ⟨b, 2, none⟩ (.int .i64 x.len)).setCell ⟨b, 3, none⟩ (.int .i64 x.exp)).setCell ⟨b, 4, none⟩ (.bool x.hit)
theorem set5_cells {w : World} {b : Nat} {a0 a1 a2 a3 a4 : Value} (h : w.heap[b]? = some (.cells #[a0, a1, a2, a3, a4] 27 (0, 0))) (x : Ent) : (set5 w b x).cell? ⟨b, 0, none⟩ = some (.int .i64 x.seq) ∧ (set5 w b x).cell? ⟨b, 1, none⟩ = some (.int .i64 x.off) ∧ (set5 w b x).cell? ⟨b, 2, none⟩ = some (.int .i64 x.len) ∧ (set5 w b x).cell? ⟨b, 3, none⟩ = some (.int .i64 x.exp) ∧ (set5 w b x).cell? ⟨b, 4, none⟩ = some (.bool x.hit) := by
  have q : (set5 w b x).heap[b]? = some (.cells #[.int .i64 x.seq, .int .i64 x.off, .int .i64 x.len, .int .i64 x.exp, .bool x.hit] 27 (0, 0)) := by
    unfold set5
    rw [blk_set (blk_set (blk_set (blk_set (blk_set h _) _) _) _) _]
    rfl
  have x0 := blk_cell (i := 0) q; have x1 := blk_cell (i := 1) q; have x2 := blk_cell (i := 2) q; have x3 := blk_cell (i := 3) q; have x4 := blk_cell (i := 4) q
  simp only [List.getElem?_toArray, List.getElem?_cons_zero, List.getElem?_cons_succ] at x0 x1 x2 x3 x4
  exact ⟨x0, x1, x2, x3, x4⟩
theorem fr_set (w : World) (b i : Nat) (v : Value) : Fr (fun j => j = b) w (w.setCell ⟨b, i, none⟩ v) := ⟨rfl, rfl, rfl, by simp [World.setCell], fun k _ hne => Below.heap_setCell _ _ _ _ hne⟩
theorem get_end {w w2 : World} {tb : Nat} {vn vo vo1 : Value} {T T1 : Tab} {k : ByteArray} {b : Bool} {x : Ent} (st : St w w2 tb vn vo vn vo1) (t2 : Tb w2 tb vn vo1 T1) (xn : ¬ tfoot tb vn vo1 w.heap.size) (q : GetI T T1 k b x) :
    GetE w tb vn vo T k (.returned (.tuple #[entV x, .bool b])) (set5 w2 w.heap.size x) := by
  have hf : Fr (fun j => j = w.heap.size) w2 (set5 w2 w.heap.size x) := by
    unfold set5
    exact ((((fr_set _ _ _ _).trans (fr_set _ _ _ _) (fun j hj => .inl hj)).trans (fr_set _ _ _ _) (fun j hj => .inl hj)).trans (fr_set _ _ _ _) (fun j hj => .inl hj)).trans (fr_set _ _ _ _) (fun j hj => .inl hj)
  exact ⟨b, x, vo1, T1, rfl, t2.frame hf (fun k hk e => xn (by rw [← e]; exact hk)), ⟨st.own, st.fr.trans hf (fun j hj => .inr (by rw [hj]; exact Nat.le_refl _))⟩, q⟩
set_option maxRecDepth 100000 in
set_option maxHeartbeats 8000000 in
theorem get10 (tb : Nat) (vn vo : Value) (T : Tab) (k : ByteArray) (w : World) (h : Tb w tb vn vo T) (hI : TI T) (hk : k.size ≤ 9223372036854775807) :
    Calls Try.prog 10 #[.pointer (some ⟨tb, 0, none⟩), .string k] w (GetE w tb vn vo T k) := by
  have hbx : Below w.heap.size w (w.alloc (.cells #[.int .i64 0, .int .i64 0, .int .i64 0, .int .i64 0, .bool false] 27)) := (Below.refl _ _).alloc (Nat.le_refl _) _
  have M := Lib.hid (move23 tb vn vo T _ (h.below hbx) hI)
  have ST0 := Lib.hid (St.below (tb := tb) (v := vn) (u := vo) hbx)
  have XL := Lib.hid (fun k hk => h.lt k hk)
  clear h hI hbx
  go_enter Try.func10, Try.ntmps10
  go_wp2_with fail
  with_reducible refine M.out.mono ?_
  rintro e' w1 ⟨rfl, vo1, T1, hm⟩
  have HM := Lib.hid hm
  have hx : w1.heap[w.heap.size]? = some (.cells #[.int .i64 0, .int .i64 0, .int .i64 0, .int .i64 0, .bool false] 27 (0, 0)) := by
    rw [hm.fr.block w.heap.size (by simp) (fun hj => by have := XL.out _ hj; omega)]
    show (w.heap.push _)[w.heap.size]? = _
    simp
  have HX := Lib.hid hx
  have ST1 := Lib.hid (ST0.out.trans hm.st)
  have XN := Lib.hid (show ¬ tfoot tb vn vo1 w.heap.size from fun hj => by have := XL.out w.heap.size (hj.imp id (fun h1 => h1.imp id (fun h2 => hm.own _ h2))); omega)
  have XS := Lib.hid (show w.heap.size < w1.heap.size from blk_lt hx)
  have FN := Lib.hid (findNow hm.tb' hm.ti k hk)
  obtain ⟨⟨t0, t1, t2, t3, t4, t5, t6, t7⟩, tf⟩ := hm.tb'.cells
  clear hm hx M ST0
  go_wp2_with fail
  with_reducible refine FN.out.mono ?_
  rintro e' w2 ⟨i, b, rfl, hfr, hb2⟩
  have FR := Lib.hid hfr
  have T2 := Lib.hid (HM.out.tb'.below hb2)
  have HX2 := Lib.hid ((hb2.block w.heap.size XS.out).trans HX.out)
  have ST2 := Lib.hid (ST1.out.trans (.below hb2))
  have XS2 := Lib.hid (Nat.lt_of_lt_of_le XS.out hb2.size)
  clear t0 t1 t2 t3 t4 t5 t6 t7 tf hfr hb2 FN ST1 HX XS
  cases b with
  | true =>
    obtain ⟨p, hp, hp1, hpk⟩ := find_true FR.out
    have hil := (List.getElem?_eq_some_iff.1 hp).1
    have hii : (i : Int) < T1.now.length := by omega
    obtain ⟨g, cap, hvn, hcap⟩ := own_slice7 T2.out.now (by omega)
    subst hvn
    obtain ⟨⟨c0, c1, c2, c3, c4, c5, c6⟩, _⟩ := own_cells T2.out.now i p hp
    have Q := Lib.hid (get_now HM.out FR.out hp)
    obtain ⟨⟨t0, t1, t2, t3, t4, t5, t6, t7⟩, tf⟩ := T2.out.cells
    have x0 := blk_cell (i := 0) HX2.out; have x1 := blk_cell (i := 1) HX2.out; have x2 := blk_cell (i := 2) HX2.out; have x3 := blk_cell (i := 3) HX2.out; have x4 := blk_cell (i := 4) HX2.out
    have y0 := blk_free (i := 0) HX2.out; have y1 := blk_free (i := 1) HX2.out; have y2 := blk_free (i := 2) HX2.out; have y3 := blk_free (i := 3) HX2.out; have y4 := blk_free (i := 4) HX2.out
    simp only [List.getElem?_toArray, List.getElem?_cons_zero, List.getElem?_cons_succ] at x0 x1 x2 x3 x4
    clear hp hp1 hpk
    go_wp2_with fail
    obtain ⟨w3, hw3⟩ : ∃ w3, set5 w2 w.heap.size p.en = w3 := ⟨_, rfl⟩
    obtain ⟨r0, r1, r2, r3, r4⟩ := set5_cells HX2.out p.en
    have GE := Lib.hid (get_end ST2.out T2.out XN.out Q.out)
    have hw3' := hw3
    unfold set5 at hw3'
    rw [hw3] at r0 r1 r2 r3 r4 GE
    rw [hw3']
    refine bodyPost_ret (v := .tuple #[entV p.en, .bool true]) (by simp [results, Try.results10, go_sem, r0, r1, r2, r3, r4]; try rfl) rfl ?_
    exact GE.out
  | false =>
    obtain ⟨⟨t0, t1, t2, t3, t4, t5, t6, t7⟩, tf⟩ := T2.out.cells
    by_cases h0 : T1.oldLen = 0
    · have Q := Lib.hid (get_miss HM.out FR.out (fun e => used_zero (HM.out.ti.cold.trans h0) k e))
      have x0 := blk_cell (i := 0) HX2.out; have x1 := blk_cell (i := 1) HX2.out; have x2 := blk_cell (i := 2) HX2.out; have x3 := blk_cell (i := 3) HX2.out; have x4 := blk_cell (i := 4) HX2.out
      have y0 := blk_free (i := 0) HX2.out; have y1 := blk_free (i := 1) HX2.out; have y2 := blk_free (i := 2) HX2.out; have y3 := blk_free (i := 3) HX2.out; have y4 := blk_free (i := 4) HX2.out
      simp only [List.getElem?_toArray, List.getElem?_cons_zero, List.getElem?_cons_succ] at x0 x1 x2 x3 x4
      rw [h0] at t5
      go_wp2_with fail
      obtain ⟨w3, hw3⟩ : ∃ w3, set5 w2 w.heap.size ent0 = w3 := ⟨_, rfl⟩
      obtain ⟨r0, r1, r2, r3, r4⟩ := set5_cells HX2.out ent0
      have GE := Lib.hid (get_end ST2.out T2.out XN.out Q.out)
      have hw3' := hw3
      simp only [set5, ent0] at hw3'
      rw [hw3] at r0 r1 r2 r3 r4 GE
      rw [hw3']
      refine bodyPost_ret (v := .tuple #[entV ent0, .bool false]) (by simp [results, Try.results10, go_sem, r0, r1, r2, r3, r4]; try rfl) rfl ?_
      exact GE.out
    · have h0' : 0 < T1.oldLen := by omega
      have hb0 : ((T1.oldLen : Int) > 0) := by omega
      have FO := Lib.hid (findOld T2.out HM.out.ti k hk h0')
      go_wp2_with fail
      with_reducible refine FO.out.mono ?_
      rintro e' w3 ⟨i, b, rfl, hfr, hb3⟩
      have FR3 := Lib.hid hfr
      have T3 := Lib.hid (T2.out.below hb3)
      have HX3 := Lib.hid ((hb3.block w.heap.size XS2.out).trans HX2.out)
      have ST3 := Lib.hid (ST2.out.trans (.below hb3))
      clear t0 t1 t2 t3 t4 t5 t6 t7 tf hfr hb3 FO HX2
      cases b with
      | true =>
        obtain ⟨p, hp, hp1, hpk⟩ := find_true FR3.out
        have hil := (List.getElem?_eq_some_iff.1 hp).1
        have hii : (i : Int) < T1.old.length := by omega
        obtain ⟨g, cap, hvn, hcap⟩ := own_slice7 T3.out.old (by omega)
        subst hvn
        obtain ⟨⟨c0, c1, c2, c3, c4, c5, c6⟩, _⟩ := own_cells T3.out.old i p hp
        have Q := Lib.hid (get_old HM.out FR3.out hp)
        obtain ⟨⟨t0, t1, t2, t3, t4, t5, t6, t7⟩, tf⟩ := T3.out.cells
        have x0 := blk_cell (i := 0) HX3.out; have x1 := blk_cell (i := 1) HX3.out; have x2 := blk_cell (i := 2) HX3.out; have x3 := blk_cell (i := 3) HX3.out; have x4 := blk_cell (i := 4) HX3.out
        have y0 := blk_free (i := 0) HX3.out; have y1 := blk_free (i := 1) HX3.out; have y2 := blk_free (i := 2) HX3.out; have y3 := blk_free (i := 3) HX3.out; have y4 := blk_free (i := 4) HX3.out
        simp only [List.getElem?_toArray, List.getElem?_cons_zero, List.getElem?_cons_succ] at x0 x1 x2 x3 x4
        clear hp hp1 hpk
        go_wp2_with fail
        obtain ⟨w4, hw4⟩ : ∃ w4, set5 w3 w.heap.size p.en = w4 := ⟨_, rfl⟩
        obtain ⟨r0, r1, r2, r3, r4⟩ := set5_cells HX3.out p.en
        have GE := Lib.hid (get_end ST3.out T3.out XN.out Q.out)
        have hw4' := hw4
        unfold set5 at hw4'
        rw [hw4] at r0 r1 r2 r3 r4 GE
        rw [hw4']
        refine bodyPost_ret (v := .tuple #[entV p.en, .bool true]) (by simp [results, Try.results10, go_sem, r0, r1, r2, r3, r4]; try rfl) rfl ?_
        exact GE.out
      | false =>
        have Q := Lib.hid (get_miss HM.out FR.out (fun e => find_none (HM.out.ti.old_find h0') FR3.out e))
        have x0 := blk_cell (i := 0) HX3.out; have x1 := blk_cell (i := 1) HX3.out; have x2 := blk_cell (i := 2) HX3.out; have x3 := blk_cell (i := 3) HX3.out; have x4 := blk_cell (i := 4) HX3.out
        have y0 := blk_free (i := 0) HX3.out; have y1 := blk_free (i := 1) HX3.out; have y2 := blk_free (i := 2) HX3.out; have y3 := blk_free (i := 3) HX3.out; have y4 := blk_free (i := 4) HX3.out
        simp only [List.getElem?_toArray, List.getElem?_cons_zero, List.getElem?_cons_succ] at x0 x1 x2 x3 x4
        go_wp2_with fail
        obtain ⟨w4, hw4⟩ : ∃ w4, set5 w3 w.heap.size ent0 = w4 := ⟨_, rfl⟩
        obtain ⟨r0, r1, r2, r3, r4⟩ := set5_cells HX3.out ent0
        have GE := Lib.hid (get_end ST3.out T3.out XN.out Q.out)
        have hw4' := hw4
        simp only [set5, ent0] at hw4'
        rw [hw4] at r0 r1 r2 r3 r4 GE
        rw [hw4']
        refine bodyPost_ret (v := .tuple #[entV ent0, .bool false]) (by simp [results, Try.results10, go_sem, r0, r1, r2, r3, r4]; try rfl) rfl ?_
        exact GE.out
end Go.Proofs.Ytkjhofmimggpnaa
