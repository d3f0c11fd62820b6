/-
  The contract of put.
-/
import Derived.Test.YtbfkhghegkiifaaTabMem
import Derived.Deep.DeepCutAuto
namespace Go.Proofs.Ytbfkhghegkiifaa
open Go.RowKit
set_option linter.unusedVariables false
def Tab.put (T : Tab) (i : Nat) (b : Bool) (k : ByteArray) (e : Ent) : Tab := { T with now := T.now.set i ⟨1, k, e⟩, nowLen := T.nowLen + (if b = true then 0 else 1) }
abbrev entV (e : Ent) : Value := .agg #[.int .i64 e.seq, .int .i64 e.off, .int .i64 e.len, .int .i64 e.exp, .bool e.hit]
/-- the table's cells -/
theorem Tb.cells {w : World} {tb : Nat} {vn vo : Value} {T : Tab} (h : Tb w tb vn vo T) :
    (w.cell? ⟨tb, 0, none⟩ = some (.int .i64 (T.nb : Int)) ∧ w.cell? ⟨tb, 1, none⟩ = some vn ∧ w.cell? ⟨tb, 2, none⟩ = some (.int .i64 (T.ob : Int)) ∧ w.cell? ⟨tb, 3, none⟩ = some vo ∧
      w.cell? ⟨tb, 4, none⟩ = some (.int .i64 (T.at' : Int)) ∧ w.cell? ⟨tb, 5, none⟩ = some (.int .i64 (T.oldLen : Int)) ∧ w.cell? ⟨tb, 6, none⟩ = some (.int .i64 (T.nowLen : Int)) ∧ w.cell? ⟨tb, 7, none⟩ = some (.int .i64 (T.work : Int))) ∧
    ∀ i, w.frozen? ⟨tb, i, none⟩ = false := by
  have c : ∀ i, w.cell? ⟨tb, i, none⟩ = (tabC T vn vo)[i]? := fun i => blk_cell h.blk
  exact ⟨⟨c 0, c 1, c 2, c 3, c 4, c 5, c 6, c 7⟩, fun i => blk_free h.blk⟩
/-- the number of the present entries is written -/
theorem Tb.setNowLen {w : World} {tb : Nat} {vn vo : Value} {T : Tab} (h : Tb w tb vn vo T) (m : Nat) : Tb (w.setCell ⟨tb, 6, none⟩ (.int .i64 (m : Int))) tb vn vo { T with nowLen := m } ∧ Fr (fun k => k = tb) w (w.setCell ⟨tb, 6, none⟩ (.int .i64 (m : Int))) := by
  have hs : (w.setCell ⟨tb, 6, none⟩ (.int .i64 (m : Int))).heap.size = w.heap.size := by simp [World.setCell]
  have hf : Fr (fun k => k = tb) w (w.setCell ⟨tb, 6, none⟩ (.int .i64 (m : Int))) := ⟨rfl, rfl, rfl, by omega, fun k _ hne => Below.heap_setCell _ _ _ _ hne⟩
  exact ⟨⟨by rw [blk_set h.blk]; rfl, own_fr h.now hf (fun g hg e => by subst e; exact h.nn hg), own_fr h.old hf (fun g hg e => by subst e; exact h.no hg), h.ne, h.nn, h.no⟩, hf⟩
/-- a place of the present places is written -/
theorem Tb.setNow {w : World} {tb g cap : Nat} {vo : Value} {T : Tab} (h : Tb w tb (.slice (some ⟨g, 0, none⟩) T.now.length cap) vo T) (i : Nat) (p : Pl) :
    Tb (set7 w g i p) tb (.slice (some ⟨g, 0, none⟩) T.now.length cap) vo { T with now := T.now.set i p } ∧ Fr (fun k => k = g) w (set7 w g i p) := by
  obtain ⟨o1, g1⟩ := own_set7 h.now i p
  have hf : Fr (fun k => k = g) w (set7 w g i p) := .of_grown g1 (by rintro k e; cases e; rfl)
  have hg : (Value.slice (some ⟨g, 0, none⟩) T.now.length cap).ownBlock = some g := rfl
  refine ⟨⟨(hf.block tb (blk_lt h.blk) (fun e => h.nn (by rw [hg, e]))).trans h.blk, ?_, own_fr h.old hf (fun j hj e => h.ne g hg (by rw [hj, e])), h.ne, h.nn, h.no⟩, hf⟩
  rw [List.length_set]; exact o1
theorem put_end {w w1 : World} {tb g cap : Nat} {vo : Value} {T : Tab} (h : Tb w1 tb (.slice (some ⟨g, 0, none⟩) T.now.length cap) vo T) (hf : Fr (fun j => j = tb ∨ g = j) w w1) (i : Nat) (b : Bool) (k : ByteArray) (e : Ent) :
    Tb (set7 w1 g i ⟨1, k, e⟩).drew tb (.slice (some ⟨g, 0, none⟩) T.now.length cap) vo (T.put i true k e) ∧ Fr (fun j => j = tb ∨ (Value.slice (some ⟨g, 0, none⟩) T.now.length cap).ownBlock = some j) w (set7 w1 g i ⟨1, k, e⟩).drew := by
  obtain ⟨h1, h2⟩ := h.setNow i ⟨1, k, e⟩
  refine ⟨h1.below (Below.refl _ _).drew, ((hf.trans h2 (fun j hj => .inl (.inr hj.symm))).mono (fun j _ hj => ?_)).drew⟩
  exact hj.imp id (fun hj => by subst hj; rfl)
set_option maxRecDepth 100000 in
set_option maxHeartbeats 4000000 in
theorem put27 (tb : Nat) (vn vo : Value) (T : Tab) (k : ByteArray) (e : Ent) (w : World) (h : Tb w tb vn vo T) (hn : T.now.length = 2 ^ T.nb) (hb1 : 1 ≤ T.nb) (hb : T.nb ≤ 30) (hk : k.size ≤ 9223372036854775807) (hnl : T.nowLen ≤ 2000000000) (hemp : ∃ (i : Nat) (p : Pl), T.now[i]? = some p ∧ p.st = 0) :
    Calls Try.prog 25 #[.pointer (some ⟨tb, 0, none⟩), .string k, entV e] w fun e' w' => e' = .returned (.tuple #[]) ∧
      ∃ (i : Nat) (b : Bool), FindR T.now (homeN T.nb k) k i b ∧ Tb w' tb vn vo (T.put i b k e) ∧ Fr (fun j => j = tb ∨ vn.ownBlock = some j) w w' := by
  have hle := pow_le30 hb
  obtain ⟨g, cap, rfl, hcap⟩ := own_slice7 h.now (by rw [hn]; exact Nat.pow_pos (by omega))
  have hbx : Below w.heap.size w (w.alloc (.cells #[.int .i64 e.seq, .int .i64 e.off, .int .i64 e.len, .int .i64 e.exp, .bool e.hit] 36)) := (Below.refl _ _).alloc (Nat.le_refl _) _
  have HA := Lib.hid (h.below hbx)
  obtain ⟨⟨t0, t1, t2, t3, t4, t5, t6, t7⟩, tf⟩ := h.cells
  obtain ⟨_, _, hvs, hv, _, _, _, _, _⟩ := ownsRow_vals HA.out.now
  cases hvs
  have FI := Lib.hid (find25 T.now.length T.nb cap (some ⟨g, 0, none⟩) T.now k _ rfl hn hb1 hb hk hv hemp)
  have tlt := blk_lt h.blk
  have HH := Lib.hid h
  rw [← hn] at hle
  have HN := Lib.hid hn
  clear h hbx t2 t3 t4 t5 t7 hv hn hemp
  unfold entV
  go_enter Try.func25, Try.ntmps25
  go_wp2_with fail
  with_reducible refine FI.out.mono ?_
  rintro e' w1 ⟨i, b, rfl, hfr, hb1'⟩
  have A1 := Lib.hid (HA.out.below hb1')
  have hbw : Below w.heap.size w w1 := ((Below.refl w.heap.size w).alloc (Nat.le_refl _) _).trans (hb1'.mono (by simp))
  have hx : w1.heap[w.heap.size]? = some (.cells #[.int .i64 e.seq, .int .i64 e.off, .int .i64 e.len, .int .i64 e.exp, .bool e.hit] 36 (0, 0)) := by
    rw [hb1'.block w.heap.size (by simp)]
    show (w.heap.push _)[w.heap.size]? = _
    simp
  have HX := Lib.hid hx
  have F1 := Lib.hid (Fr.of_below (S := fun j => j = tb ∨ g = j) hbw)
  have HFR := Lib.hid hfr
  have hin : i < T.now.length := by
    obtain ⟨t, ht, hi, _⟩ := hfr
    obtain ⟨hh, _⟩ := homeN_lt k T.nb hb1 hb
    have hz : T.now.length = 2 ^ T.nb := HN.out
    rw [hi]; exact pos_lt (by omega) (by omega)
  obtain ⟨p, hp⟩ : ∃ p, T.now[i]? = some p := ⟨_, List.getElem?_eq_getElem hin⟩
  have HP := Lib.hid hp
  have hii : (i : Int) < T.now.length := by omega
  have hgt : g ≠ tb := fun e => HH.out.nn (by rw [e]; rfl)
  have hgx : g ≠ w.heap.size := fun e => by have := HH.out.lt g (.inr (.inl rfl)); omega
  have htx : tb ≠ w.heap.size := by omega
  clear hb1' hx hfr hp hbw t0 t1 t6 tf
  cases b with
  | true =>
    obtain ⟨⟨t0, t1, _, _, _, _, _, _⟩, tf⟩ := A1.out.cells
    obtain ⟨⟨c0, c1, c2, c3, c4, c5, c6⟩, ⟨f0, f1, f2, f3, f4, f5, f6⟩⟩ := own_cells A1.out.now i p HP.out
    have x0 := blk_cell (i := 0) HX.out; have x1 := blk_cell (i := 1) HX.out; have x2 := blk_cell (i := 2) HX.out; have x3 := blk_cell (i := 3) HX.out; have x4 := blk_cell (i := 4) HX.out
    simp only [List.getElem?_toArray, List.getElem?_cons_zero, List.getElem?_cons_succ] at x0 x1 x2 x3 x4
    go_wp2_with fail
    go_region
    go_end0
    exact ⟨rfl, i, true, HFR.out, put_end A1.out F1.out i true k e⟩
  | false =>
    have S1 := A1.out.setNowLen (T.nowLen + 1)
    rw [show ((T.nowLen + 1 : Nat) : Int) = (T.nowLen : Int) + 1 from by omega] at S1
    obtain ⟨⟨t0, t1, _, _, _, _, t6, _⟩, tf⟩ := A1.out.cells
    have HX2 : Hid ((w1.setCell ⟨tb, 6, none⟩ (.int .i64 ((T.nowLen : Int) + 1))).heap[w.heap.size]? = some (.cells #[.int .i64 e.seq, .int .i64 e.off, .int .i64 e.len, .int .i64 e.exp, .bool e.hit] 36 (0, 0))) :=
      Lib.hid ((Below.heap_setCell _ _ _ _ (Ne.symm htx)).trans HX.out)
    have S1H := Lib.hid S1
    clear S1
    go_upto_region 4 with fail
    obtain ⟨w2, hw2⟩ : ∃ w2, w1.setCell ⟨tb, 6, none⟩ (.int .i64 ((T.nowLen : Int) + 1)) = w2 := ⟨_, rfl⟩
    rw [hw2] at S1H HX2 ⊢
    clear hw2 t0 t1 t6 tf
    obtain ⟨⟨t0, t1, _, _, _, _, _, _⟩, tf⟩ := S1H.out.1.cells
    obtain ⟨⟨c0, c1, c2, c3, c4, c5, c6⟩, ⟨f0, f1, f2, f3, f4, f5, f6⟩⟩ := own_cells S1H.out.1.now i p HP.out
    have x0 := blk_cell (i := 0) HX2.out; have x1 := blk_cell (i := 1) HX2.out; have x2 := blk_cell (i := 2) HX2.out; have x3 := blk_cell (i := 3) HX2.out; have x4 := blk_cell (i := 4) HX2.out
    simp only [List.getElem?_toArray, List.getElem?_cons_zero, List.getElem?_cons_succ] at x0 x1 x2 x3 x4
    go_wp2_with fail
    go_region
    go_end0
    exact ⟨rfl, i, false, HFR.out, put_end (T := { T with nowLen := T.nowLen + 1 }) S1H.out.1 (F1.out.trans S1H.out.2 (fun j h => .inl (.inl h))) i true k e⟩
end Go.Proofs.Ytbfkhghegkiifaa
