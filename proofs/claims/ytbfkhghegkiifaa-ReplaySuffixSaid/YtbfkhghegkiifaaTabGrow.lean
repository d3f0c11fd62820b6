/-
  The contract of grow.
-/
import Derived.Test.YtbfkhghegkiifaaTabForget
namespace Go.Proofs.Ytbfkhghegkiifaa
open Go.RowKit
set_option linter.unusedVariables false
/-- twice as many places -/
def Tab.grown (T : Tab) : Tab := { nb := T.nb + 1, now := List.replicate (2 ^ (T.nb + 1)) pEmpty, ob := T.nb, old := T.now, at' := 0, oldLen := T.nowLen, nowLen := 0, work := T.work }
structure GrowI (T T' : Tab) : Prop where
  ti : TI T'
  tot : T'.nowLen + T'.oldLen = T.nowLen + T.oldLen
  wk : T'.work = T.work
  has : ∀ k e, Has T' k e ↔ Has T k e
  room : T'.oldLen + 8 * (T'.nowLen + T'.oldLen) + 8 ≤ 6 * 2 ^ T'.nb
  cap1 : 4 * (T'.nowLen + T'.oldLen) + 4 ≤ 3 * 2 ^ T'.nb
def Ready (T : Tab) : Prop := T.oldLen = 0 ∨ T.oldLen + 8 * (T.nowLen + T.oldLen) + 8 ≤ 6 * 2 ^ T.nb
theorem grow_stay {T : Tab} (hI : TI T) (hr : Ready T) (h : 4 * (T.nowLen + T.oldLen + 1) ≤ 3 * 2 ^ T.nb) : GrowI T T := by
  refine ⟨hI, rfl, rfl, fun _ _ => Iff.rfl, ?_, by omega⟩
  rcases hr with h0 | h0
  · omega
  · exact h0
theorem grow_grown {T : Tab} (hI : TI T) (hr : Ready T) (hs : T.nowLen + T.oldLen ≤ 1000000) (h : 3 * 2 ^ T.nb < 4 * (T.nowLen + T.oldLen + 1)) : GrowI T T.grown ∧ T.nb + 1 ≤ 30 := by
  have h0 : T.oldLen = 0 := by
    rcases hr with h0 | h0
    · exact h0
    · omega
  have hn : T.nb + 1 ≤ 30 := by
    rcases Nat.lt_or_ge T.nb 29 with h1 | h1
    · omega
    · have : 2 ^ 29 ≤ 2 ^ T.nb := Nat.pow_le_pow_right (by omega) h1
      omega
  have h8 : 8 ≤ 2 ^ T.nb := (Nat.pow_le_pow_right (by omega) hI.n3 : 2 ^ 3 ≤ 2 ^ T.nb)
  have hp : 2 ^ (T.nb + 1) = 2 * 2 ^ T.nb := by rw [Nat.pow_succ]; omega
  have hz := used_zero (hI.cold.trans h0)
  have hcap := hI.cap
  have e1 : T.grown.nb = T.nb + 1 := rfl
  have e2 : T.grown.oldLen = T.nowLen := rfl
  have e3 : T.grown.nowLen = 0 := rfl
  have hhas : ∀ k e, Has T.grown k e ↔ Has T k e := fun k e =>
    ⟨fun hh => hh.elim (fun hh => absurd hh (none_new _ k e)) (fun hh => .inl hh), fun hh => hh.elim (fun hh => .inr hh) (fun hh => absurd hh (hz k e))⟩
  refine ⟨⟨⟨by have := hI.n3; rw [e1]; omega, hn, by show (List.replicate _ _).length = _; rw [List.length_replicate]; rfl, inv_new _ (by omega) hn, fun p hp => ?_, used_new _, .inr ⟨hI.nlen, by show 1 ≤ T.nb; have := hI.n3; omega, by show T.nb ≤ 30; omega, hI.inow, hI.emp⟩, hI.cnow, fun i p hi => absurd hi (Nat.not_lt_zero _), fun k e e' hh => absurd hh (none_new _ k e), ?_, ?_, fun k e hh => ?_⟩, by rw [e2, e3, h0]; omega, rfl, hhas, ?_, ?_⟩, hn⟩
  · rw [(List.mem_replicate.1 hp).2]; exact .inl rfl
  · rw [e1, e2, e3, hp]; omega
  · rw [e1, e2, e3, hp]; omega
  · exact hI.ks k e ((hhas k e).1 hh)
  · rw [e1, e2, e3, hp]; omega
  · rw [e1, e2, e3, hp]; omega
structure GrowQ (w w' : World) (tb : Nat) (vn vo vn' vo' : Value) (T T' : Tab) : Prop where
  tb' : Tb w' tb vn' vo' T'
  gi : GrowI T T'
  own : ∀ j, tfoot tb vn' vo' j → tfoot tb vn vo j ∨ w.heap.size ≤ j
  fr : Fr (fun k => k = tb) w w'
theorem grow_end {w w1 w2 : World} {tb g n : Nat} {vn vo : Value} {T : Tab} (h : Tb w tb vn vo T) (hb1 : Fr (fun k => k = tb) w w1) (h1 : w1.heap[tb]? = some (.cells #[.int .i64 (T.nb : Int), vn, .int .i64 (T.nb : Int), vn, .int .i64 0, .int .i64 (T.nowLen : Int), .int .i64 (T.nowLen : Int), .int .i64 (T.work : Int)] 64 (0, 0))) (hg : w1.heap.size ≤ g)
    (hb2 : Below w1.heap.size w1 w2) (hn : n = 2 ^ (T.nb + 1)) (hown : w2.ownsRow 0 71 7 (.slice (some ⟨g, 0, none⟩) n n) n (placesC (List.replicate n pEmpty))) (hI : GrowI T T.grown) :
    GrowQ w ((((w2.setCell ⟨tb, 0, none⟩ (.int .i64 ((T.nb : Int) + 1))).setCell ⟨tb, 1, none⟩ (.slice (some ⟨g, 0, none⟩) n n))).setCell ⟨tb, 6, none⟩ (.int .i64 0)) tb vn vo (.slice (some ⟨g, 0, none⟩) n n) vn T T.grown := by
  have hlt := blk_lt h.blk
  have hs := hb1.size
  have hf3 : Fr (fun k => k = tb) w2 ((((w2.setCell ⟨tb, 0, none⟩ (.int .i64 ((T.nb : Int) + 1))).setCell ⟨tb, 1, none⟩ (.slice (some ⟨g, 0, none⟩) n n))).setCell ⟨tb, 6, none⟩ (.int .i64 0)) :=
    ⟨rfl, rfl, rfl, by simp [World.setCell], fun k _ hne => by rw [Below.heap_setCell _ _ _ _ hne, Below.heap_setCell _ _ _ _ hne, Below.heap_setCell _ _ _ _ hne]⟩
  have hf12 : Fr (fun k => k = tb) w w2 := hb1.trans (.of_below (S := fun _ => False) hb2) (fun _ f => f.elim)
  have hnow2 : w2.ownsRow 0 71 7 vn T.now.length (placesC T.now) := own_fr h.now hf12 (fun g hg e => by subst e; exact h.nn hg)
  refine ⟨⟨?_, ?_, ?_, ?_, ?_, h.nn⟩, hI, ?_, hf12.trans hf3 (fun j hj => .inl hj)⟩
  · have q : w2.heap[tb]? = _ := (hb2.block tb (by omega)).trans h1
    rw [blk_set (blk_set (blk_set q _) _)]
    show _ = some (Obj.cells (tabC T.grown _ _) _ _)
    unfold tabC Tab.grown
    rw [show ((T.nb + 1 : Nat) : Int) = (T.nb : Int) + 1 from by omega]
    rfl
  · show World.ownsRow _ _ _ _ _ (List.replicate (2 ^ (T.nb + 1)) pEmpty).length _
    rw [List.length_replicate, ← hn]
    refine own_fr ?_ hf3 (fun g' hg' e => by simp [Value.ownBlock] at hg'; omega)
    show World.ownsRow _ _ _ _ _ _ (placesC (List.replicate (2 ^ (T.nb + 1)) pEmpty))
    rw [← hn]; exact hown
  · exact own_fr hnow2 hf3 (fun g hg e => by subst e; exact h.nn hg)
  · intro g' hg' e
    simp [Value.ownBlock] at hg'
    have := (h.now.lt g' e).2
    omega
  · simp [Value.ownBlock]; omega
  · rintro j (rfl | e | e)
    · exact .inl (.inl rfl)
    · simp [Value.ownBlock] at e; exact .inr (by omega)
    · exact .inl (.inr (.inl e))
set_option maxRecDepth 100000 in
set_option maxHeartbeats 8000000 in
theorem grow26 (tb : Nat) (vn vo : Value) (T : Tab) (w : World) (h : Tb w tb vn vo T) (hI : TI T) (hr : Ready T) (hs : T.nowLen + T.oldLen ≤ 1000000) :
    Calls Try.prog 24 #[.pointer (some ⟨tb, 0, none⟩)] w fun e' w' => e' = .returned (.tuple #[]) ∧ ∃ vn' vo' T', GrowQ w w' tb vn vo vn' vo' T T' := by
  obtain ⟨g, cap, rfl, hcap⟩ := own_slice7 h.now (by rw [hI.nlen]; exact Nat.pow_pos (by omega))
  obtain ⟨⟨t0, t1, t2, t3, t4, t5, t6, t7⟩, tf⟩ := h.cells
  have LN := Lib.hid (fun n => len15 tb _ _ T (w.drewN n) (h.below (below_drewN (Below.refl _ _) n)) (by omega))
  have HT := Lib.hid h
  have HI := Lib.hid hI
  have NL := Lib.hid hI.nlen
  have hle := pow_le30 hI.n30
  have hn30 := hI.n30
  have hn3 := hI.n3
  have F0 := tf 0; have F1 := tf 1; have F2 := tf 2; have F3 := tf 3; have F4 := tf 4; have F5 := tf 5; have F6 := tf 6
  by_cases hg : 4 * (T.nowLen + T.oldLen + 1) ≤ 3 * 2 ^ T.nb
  · have Q := Lib.hid (grow_stay hI hr hg)
    have hb : decide (4 * (((T.nowLen + T.oldLen : Nat) : Int) + 1) > 3 * (T.now.length : Int)) = false := by
      rw [decide_eq_false_iff_not, NL.out]; omega
    rw [← NL.out] at hle
    have HTT : ((T.nowLen + T.oldLen : Nat) : Int) ≤ 1000000 := by omega
    have hnl : T.now.length ≤ 1073741824 := hle
    generalize hm : ((T.nowLen + T.oldLen : Nat) : Int) = m at *
    have hm0 : 0 ≤ m := by omega
    clear hg h hI hr hle hs
    go_enter Try.func24, Try.ntmps24
    go_wp2_with fail
    go_quiet ((go_at_call 33; exact Calls.quiet_of (LN.out _)))
    go_wp2_with fail
    go_end0
    exact ⟨rfl, _, _, T, HT.out.below (below_drewN (Below.refl _ _) _), Q.out, fun j hj => .inl hj, Fr.of_below (below_drewN (Below.refl _ _) _)⟩
  · obtain ⟨hgi, hnb⟩ := grow_grown hI hr hs (by omega)
    have Q := Lib.hid hgi
    have hb : decide (4 * (((T.nowLen + T.oldLen : Nat) : Int) + 1) > 3 * (T.now.length : Int)) = true := by
      rw [decide_eq_true_iff, NL.out]; omega
    rw [← NL.out] at hle
    have HTT : ((T.nowLen + T.oldLen : Nat) : Int) ≤ 1000000 := by omega
    have hnl : T.now.length ≤ 1073741824 := hle
    have NP := Lib.hid (fun W => newPlaces22 (T.nb + 1) W (by omega) hnb)
    generalize hm : ((T.nowLen + T.oldLen : Nat) : Int) = m at *
    have hm0 : 0 ≤ m := by omega
    clear hg h hI hr hle hs
    go_enter Try.func24, Try.ntmps24
    go_wp2_with fail
    go_quiet ((go_at_call 33; exact Calls.quiet_of (LN.out _)))
    go_upto_region 1 with fail
    have H1 := Lib.hid (HT.out.below (below_drewN (Below.refl _ _) nq))
    have B1 := Lib.hid (Fr.of_below (S := fun k => k = tb) (below_drewN (Below.refl w.heap.size w) nq))
    generalize w.drewN nq = w1 at *
    obtain ⟨⟨t0, t1, t2, t3, t4, t5, t6, t7⟩, tf⟩ := H1.out.cells
    have F0 := tf 0; have F1 := tf 1; have F2 := tf 2; have F3 := tf 3; have F4 := tf 4; have F5 := tf 5; have F6 := tf 6
    go_region
    obtain ⟨w2, hw2⟩ : ∃ w2, ((((w1.setCell ⟨tb, 2, none⟩ (.int .i64 (T.nb : Int))).setCell ⟨tb, 3, none⟩ (.slice (some ⟨g, 0, none⟩) T.now.length cap)).setCell ⟨tb, 5, none⟩ (.int .i64 (T.nowLen : Int))).setCell ⟨tb, 4, none⟩ (.int .i64 0)).drew = w2 := ⟨_, rfl⟩
    have hq : w2.heap[tb]? = some (.cells #[.int .i64 (T.nb : Int), .slice (some ⟨g, 0, none⟩) T.now.length cap, .int .i64 (T.nb : Int), .slice (some ⟨g, 0, none⟩) T.now.length cap, .int .i64 0, .int .i64 (T.nowLen : Int), .int .i64 (T.nowLen : Int), .int .i64 (T.work : Int)] 64 (0, 0)) := by
      rw [← hw2]
      exact blk_set (blk_set (blk_set (blk_set H1.out.blk _) _) _) _
    have B2 := Lib.hid (B1.out.trans (T := fun k => k = tb) (c := w2) (by
      rw [← hw2]
      exact Fr.drew ⟨rfl, rfl, rfl, by simp [World.setCell], fun k _ hne => by rw [Below.heap_setCell _ _ _ _ hne, Below.heap_setCell _ _ _ _ hne, Below.heap_setCell _ _ _ _ hne, Below.heap_setCell _ _ _ _ hne]⟩) (fun j hj => .inl hj))
    rw [hw2]
    clear hw2 t0 t1 t2 t3 t4 t5 t6 t7 tf F0 F1 F2 F3 F4 F5 F6 B1 H1
    have c0 := blk_cell (i := 2) hq
    simp only [List.getElem?_toArray, List.getElem?_cons_zero, List.getElem?_cons_succ] at c0
    have HQ := Lib.hid hq
    clear hq
    have NPW := Lib.hid (NP.out w2)
    rw [show ((T.nb + 1 : Nat) : Int) = (T.nb : Int) + 1 from by omega] at NPW
    go_wp2_with fail
    with_reducible refine NPW.out.mono ?_
    rintro e' w3 ⟨g3, rfl, hown, hb3, hg3⟩
    have hlt := blk_lt HQ.out
    have hs3 := hb3.size
    have q3 := (hb3.block tb hlt).trans HQ.out
    have F0 := blk_free (i := 0) q3; have F1 := blk_free (i := 1) q3; have F6 := blk_free (i := 6) q3
    have d0 := blk_cell (i := 0) q3; have d1 := blk_cell (i := 1) q3; have d6 := blk_cell (i := 6) q3
    simp only [List.getElem?_toArray, List.getElem?_cons_zero, List.getElem?_cons_succ] at d0 d1 d6
    clear t0 t1 t2 t3 t4 t5 t6 t7 tf F2 F3 F4 F5
    have OWN := Lib.hid hown; have B3 := Lib.hid hb3
    clear hown hb3 q3 c0
    go_wp2_with fail
    go_end0
    exact ⟨rfl, _, _, _, grow_end HT.out B2.out HQ.out hg3 B3.out rfl OWN.out Q.out⟩
end Go.Proofs.Ytbfkhghegkiifaa
