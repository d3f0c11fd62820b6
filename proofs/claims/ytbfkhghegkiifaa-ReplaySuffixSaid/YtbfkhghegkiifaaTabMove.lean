/-
  The contract of move.
-/
import Derived.Test.YtbfkhghegkiifaaTabInv
import Derived.Deep.RegionHeld3
import Derived.Deep.QuietTactic
import Derived.WalkSmall
namespace Go.Proofs.Ytbfkhghegkiifaa
open Go.RowKit
set_option linter.unusedVariables false
theorem Tb.field {w : World} {tb : Nat} {vn vo : Value} {T : Tab} (h : Tb w tb vn vo T) (i : Nat) (v : Value) (T' : Tab) (h1 : (tabC T vn vo).setIfInBounds i v = tabC T' vn vo) (h2 : T'.now = T.now) (h3 : T'.old = T.old) :
    Tb (w.setCell ⟨tb, i, none⟩ v) tb vn vo T' ∧ Fr (fun k => k = tb) w (w.setCell ⟨tb, i, none⟩ v) := by
  have hs : (w.setCell ⟨tb, i, none⟩ v).heap.size = w.heap.size := by simp [World.setCell]
  have hf : Fr (fun k => k = tb) w (w.setCell ⟨tb, i, none⟩ v) := ⟨rfl, rfl, rfl, by omega, fun k _ hne => Below.heap_setCell _ _ _ _ hne⟩
  exact ⟨⟨by rw [blk_set h.blk, h1], by rw [h2]; exact own_fr h.now hf (fun g hg e => by subst e; exact h.nn hg), by rw [h3]; exact own_fr h.old hf (fun g hg e => by subst e; exact h.no hg), h.ne, h.nn, h.no⟩, hf⟩
/-- a place of the old places is written -/
theorem Tb.setOld {w : World} {tb g cap : Nat} {vn : Value} {T : Tab} (h : Tb w tb vn (.slice (some ⟨g, 0, none⟩) T.old.length cap) T) (i : Nat) (p : Pl) :
    Tb (set7 w g i p) tb vn (.slice (some ⟨g, 0, none⟩) T.old.length cap) { T with old := T.old.set i p } ∧ Fr (fun k => k = g) w (set7 w g i p) := by
  obtain ⟨o1, g1⟩ := own_set7 h.old i p
  have hf : Fr (fun k => k = g) w (set7 w g i p) := .of_grown g1 (by rintro k e; cases e; rfl)
  have hg : (Value.slice (some ⟨g, 0, none⟩) T.old.length cap).ownBlock = some g := rfl
  refine ⟨⟨(hf.block tb (blk_lt h.blk) (fun e => h.no (by rw [hg, e]))).trans h.blk, own_fr h.now hf (fun j hj e => h.ne j hj (by rw [hg, e])), ?_, h.ne, h.nn, h.no⟩, hf⟩
  rw [List.length_set]; exact o1
/-- the old places are given up -/
theorem Tb.noOld {w : World} {tb : Nat} {vn vo : Value} {T : Tab} (h : Tb w tb vn vo T) :
    Tb (((w.setCell ⟨tb, 2, none⟩ (.int .i64 0)).setCell ⟨tb, 3, none⟩ (.slice none 0 0)).setCell ⟨tb, 4, none⟩ (.int .i64 0)) tb vn (.slice none 0 0) T.noOld ∧
      Fr (fun k => k = tb) w (((w.setCell ⟨tb, 2, none⟩ (.int .i64 0)).setCell ⟨tb, 3, none⟩ (.slice none 0 0)).setCell ⟨tb, 4, none⟩ (.int .i64 0)) := by
  have hf : Fr (fun k => k = tb) w (((w.setCell ⟨tb, 2, none⟩ (.int .i64 0)).setCell ⟨tb, 3, none⟩ (.slice none 0 0)).setCell ⟨tb, 4, none⟩ (.int .i64 0)) :=
    ⟨rfl, rfl, rfl, by simp [World.setCell], fun k _ hne => by rw [Below.heap_setCell _ _ _ _ hne, Below.heap_setCell _ _ _ _ hne, Below.heap_setCell _ _ _ _ hne]⟩
  refine ⟨⟨?_, own_fr h.now hf (fun g hg e => by subst e; exact h.nn hg), ⟨rfl, .inl ⟨rfl, rfl⟩⟩, fun g hg e => by simp [Value.ownBlock] at e, h.nn, by simp [Value.ownBlock]⟩, hf⟩
  rw [blk_set (blk_set (blk_set h.blk _) _)]
  rfl
/-- what move keeps in its loop -/
structure MoveR (w wr : World) (tb : Nat) (vn vo : Value) (T0 T : Tab) : Prop where
  tb' : Tb wr tb vn vo T
  ti : TI T
  ol : T.old.length = T0.old.length
  mv : T.oldLen + T.work = T0.oldLen
  w8 : T.work ≤ 8
  tot : T.nowLen + T.oldLen = T0.nowLen + T0.oldLen
  nb' : T.nb = T0.nb
  has : ∀ k e, Has T k e ↔ Has T0 k e
  fr : Fr (tfoot tb vn vo) w wr
structure MoveQ (w w' : World) (tb : Nat) (vn vo vo' : Value) (T T' : Tab) : Prop where
  tb' : Tb w' tb vn vo' T'
  ti : TI T'
  ol : T'.oldLen = T.oldLen - 8
  tot : T'.nowLen + T'.oldLen = T.nowLen + T.oldLen
  nb' : T'.nb = T.nb
  w8 : T'.work ≤ 8
  has : ∀ k e, Has T' k e ↔ Has T k e
  own : ∀ g, vo'.ownBlock = some g → vo.ownBlock = some g
  fr : Fr (tfoot tb vn vo) w w'
theorem moveR_start {w : World} {tb : Nat} {vn vo : Value} {T : Tab} (h : Tb w tb vn vo T) (hI : TI T) : MoveR w (w.setCell ⟨tb, 7, none⟩ (.int .i64 0)) tb vn vo T { T with work := 0 } := by
  obtain ⟨h1, h2⟩ := h.field 7 (.int .i64 0) { T with work := 0 } rfl rfl rfl
  exact ⟨h1, ⟨hI.n3, hI.n30, hI.nlen, hI.inow, hI.snow, hI.cnow, hI.iold, hI.cold, hI.at0, hI.disj, hI.cap, hI.slack, hI.ks⟩, rfl, rfl, Nat.zero_le _, rfl, rfl, fun _ _ => Iff.rfl, h2.mono (fun k _ e => .inl e)⟩
theorem MoveR.drewN {w wr : World} {tb : Nat} {vn vo : Value} {T0 T : Tab} (h : MoveR w wr tb vn vo T0 T) (n : Nat) : MoveR w (wr.drewN n) tb vn vo T0 T :=
  ⟨h.tb'.below (below_drewN (Below.refl _ _) n), h.ti, h.ol, h.mv, h.w8, h.tot, h.nb', h.has, h.fr.drewN n⟩
theorem moveR_end {w wr : World} {tb : Nat} {vn vo : Value} {T0 T : Tab} (h : MoveR w wr tb vn vo T0 T) (h0 : 0 < T.oldLen) (h8 : 8 ≤ T.work) : MoveQ w wr tb vn vo vo T0 T := by
  have := h.mv
  have := h.w8
  exact ⟨h.tb', h.ti, by omega, h.tot, h.nb', h.w8, h.has, fun g hg => hg, h.fr⟩
theorem moveR_end0 {w wr : World} {tb : Nat} {vn vo : Value} {T0 T : Tab} (h : MoveR w wr tb vn vo T0 T) (h0 : T.oldLen = 0) :
    MoveQ w (((wr.setCell ⟨tb, 2, none⟩ (.int .i64 0)).setCell ⟨tb, 3, none⟩ (.slice none 0 0)).setCell ⟨tb, 4, none⟩ (.int .i64 0)) tb vn vo (.slice none 0 0) T0 T.noOld := by
  have hm := h.mv
  have h8 := h.w8
  obtain ⟨b1, b2⟩ := h.tb'.noOld
  obtain ⟨i1, i2⟩ := h.ti.noOld h0
  exact ⟨b1, i1, by show T.oldLen = _; omega, h.tot, h.nb', h8, fun k e => (i2 k e).trans (h.has k e), fun g hg => by simp [Value.ownBlock] at hg, h.fr.trans b2 (fun j e => .inl (.inl e))⟩
theorem moveR_skip {w wr : World} {tb : Nat} {vn vo : Value} {T0 T : Tab} {p : Pl} (h : MoveR w wr tb vn vo T0 T) (hp : T.old[T.at']? = some p) (h1 : p.st ≠ 1) : MoveR w (wr.setCell ⟨tb, 4, none⟩ (.int .i64 ((T.at' : Int) + 1))) tb vn vo T0 { T with at' := T.at' + 1 } := by
  obtain ⟨b1, b2⟩ := h.tb'.field 4 (.int .i64 ((T.at' : Int) + 1)) { T with at' := T.at' + 1 } (by unfold tabC; rw [show ((T.at' + 1 : Nat) : Int) = (T.at' : Int) + 1 from by omega]; rfl) rfl rfl
  have hne : T.old ≠ [] := fun e => by rw [e] at hp; simp at hp
  exact ⟨b1, h.ti.skip hne hp h1, h.ol, h.mv, h.w8, h.tot, h.nb', h.has, h.fr.trans b2 (fun j e => .inl (.inl e))⟩
theorem moveR_moved {w wr w3 w7 : World} {tb i : Nat} {vn vo : Value} {T0 T : Tab} {p : Pl} {b : Bool} (h : MoveR w wr tb vn vo T0 T) (hp : T.old[T.at']? = some p) (h1 : p.st = 1) (h8 : T.work < 8) (f : FindR T.now (homeN T.nb p.key) p.key i b) (hf3 : Fr (fun j => j = tb ∨ vn.ownBlock = some j) wr w3)
    (ht : Tb w7 tb vn vo (T.moved i p)) (hf : Fr (tfoot tb vn vo) w3 w7) : MoveR w w7 tb vn vo T0 (T.moved i p) := by
  obtain ⟨_, i1, i2, i3⟩ := h.ti.moved hp h1 f
  have hm := h.mv
  have htot := h.tot
  have e1 : (T.moved i p).nowLen = T.nowLen + 1 := rfl
  have e2 : (T.moved i p).work = T.work + 1 := rfl
  refine ⟨ht, i1, ?_, by omega, by omega, by omega, h.nb', fun k e => (i3 k e).trans (h.has k e), (h.fr.trans hf3 (fun j hj => .inl (hj.imp id .inl))).trans hf (fun j hj => .inl hj)⟩
  show (T.old.set _ _).length = _
  rw [List.length_set]; exact h.ol
/-- while something is left, a used place lies ahead -/
theorem TI.at_lt {T : Tab} (h : TI T) (h0 : 0 < T.oldLen) : T.at' < T.old.length := by
  rcases Nat.lt_or_ge T.at' T.old.length with h1 | h1
  · exact h1
  · exfalso
    have hc := h.cold
    have : usedN T.old = 0 := by
      unfold usedN
      rw [List.countP_eq_zero]
      intro p hp
      obtain ⟨i, hi, e⟩ := List.getElem_of_mem hp
      have := h.at0 i p (by omega) (by rw [List.getElem?_eq_getElem hi, e])
      simpa using this
    omega
set_option maxRecDepth 100000 in
set_option maxHeartbeats 8000000 in
theorem move23 (tb : Nat) (vn vo : Value) (T0 : Tab) (w : World) (h : Tb w tb vn vo T0) (hI : TI T0) :
    Calls Try.prog 21 #[.pointer (some ⟨tb, 0, none⟩)] w fun e' w' => e' = .returned (.tuple #[]) ∧ ∃ vo' T', MoveQ w w' tb vn vo vo' T0 T' := by
  have M0 := Lib.hid (moveR_start h hI)
  obtain ⟨⟨t0, t1, t2, t3, t4, t5, t6, t7⟩, tf⟩ := h.cells
  have LE := Lib.hid hI.len_le
  clear h hI
  go_enter Try.func21, Try.ntmps21
  go_wp2_with fail
  clear t0 t1 t2 t3 t4 t5 t6 t7 tf
  go_loopg [2] (T0.old.length - T0.at') (fun gk _ wr => ∃ T, T.old.length - T.at' = gk ∧ MoveR w wr tb vn vo T0 T)
  case atStart => exact ⟨{ T0 with work := 0 }, rfl, M0.out⟩
  case round =>
    obtain ⟨T, hgk, hm⟩ := hrel
    clear M0
    have GK := Lib.hid hgk
    have M := Lib.hid hm
    have hnl : T.nowLen ≤ 1073741824 := by have := LE.out; have := hm.tot; omega
    have hol : T.oldLen ≤ 1073741824 := by have := LE.out; have := hm.tot; omega
    have hw8 := hm.w8
    obtain ⟨⟨t0, t1, t2, t3, t4, t5, t6, t7⟩, tf⟩ := hm.tb'.cells
    clear hgk hm
    by_cases h0 : T.oldLen = 0
    · have Q := Lib.hid (moveR_end0 M.out h0)
      rw [h0] at t5
      clear hol
      go_wp2_with fail
      go_end0
      exact ⟨rfl, _, _, Q.out⟩
    · have h0' : 0 < T.oldLen := by omega
      by_cases h8 : T.work = 8
      · have Q := Lib.hid (moveR_end M.out h0' (by omega))
        have hb1 : ((T.oldLen : Int) == 0) = false := by simp; omega
        clear h0
        go_wp2_with fail
        go_end0
        exact ⟨rfl, _, _, Q.out⟩
      · have h8' : T.work < 8 := by omega
        have hat := M.out.ti.at_lt h0'
        obtain ⟨p, hp⟩ : ∃ p, T.old[T.at']? = some p := ⟨_, List.getElem?_eq_getElem hat⟩
        obtain ⟨go, capo, hvo, hcap⟩ := own_slice7 M.out.tb'.old (by omega)
        subst hvo
        obtain ⟨⟨c0, c1, c2, c3, c4, c5, c6⟩, _⟩ := own_cells M.out.tb'.old T.at' p hp
        have HP := Lib.hid hp
        have hatI : (T.at' : Int) < T.old.length := by omega
        have hat0 : (0 : Int) ≤ (T.at' : Int) := by omega
        have holn : T.old.length ≤ 1073741824 := by
          obtain ⟨e, _, e2, _⟩ := M.out.ti.old_inv hp
          rw [e]; exact pow_le30 e2
        clear hp h0 h8
        by_cases hs : p.st = 1
        · have hsb : ((p.st : Int) == 1) = true := by simp [hs]
          have HS := Lib.hid hs
          clear hs t0 t1 t2
          go_wp2_with fail
          go_quiet (fail)
          go_wp2_with fail
          have M2 := Lib.hid (M.out.drewN nq)
          clear M t3 t4 t5 t6 t7 tf c0 c1 c2 c3 c4 c5 c6
          generalize wr.drewN nq = w2 at *
          obtain ⟨⟨c0, c1, c2, c3, c4, c5, c6⟩, _⟩ := own_cells M2.out.tb'.old T.at' p HP.out
          have PU := Lib.hid (put27 tb vn _ T p.key p.en w2.drew (M2.out.tb'.below (Below.refl _ _).drew) M2.out.ti.nlen (by have := M2.out.ti.n3; omega) M2.out.ti.n30 (M2.out.ti.ks p.key p.en (.inr ⟨_, p, HP.out, HS.out, rfl, rfl⟩)) (by omega) M2.out.ti.emp)
          go_region_with (go_at_call 25; (with_reducible refine PU.out.mono ?_); rintro e3 w3 ⟨rfl, i, b, fr3, b3, f3⟩)
          all_goals
            have FR3 := Lib.hid fr3
            have B3 := Lib.hid b3
            have F3 := Lib.hid ((Fr.of_below (S := fun j => j = tb ∨ vn.ownBlock = some j) (Below.refl w2.heap.size w2).drew).trans f3 (fun j hj => .inl hj))
            have hbf := (M2.out.ti.moved HP.out HS.out fr3).1
            subst hbf
            clear fr3 b3 f3 c0 c1 c2 c3 c4 c5 c6 PU
            obtain ⟨⟨c0, c1, c2, c3, c4, c5, c6⟩, ⟨f0, f1, f2, f3, f4, f5, f6⟩⟩ := own_cells B3.out.old T.at' p HP.out
            have B4 := Lib.hid (Tb.setOld (T := T.put i false p.key p.en) B3.out T.at' pGone)
            go_upto_region 7 with fail
            obtain ⟨w4, hw4⟩ : ∃ w4, (((((((w3.setCell ⟨go, T.at' * 7, none⟩ (.int .i64 2)).setCell ⟨go, T.at' * 7 + 1, none⟩ (.string ⟨#[]⟩)).setCell ⟨go, T.at' * 7 + 2, none⟩ (.int .i64 0)).setCell ⟨go, T.at' * 7 + 3, none⟩ (.int .i64 0)).setCell ⟨go, T.at' * 7 + 4, none⟩ (.int .i64 0)).setCell ⟨go, T.at' * 7 + 5, none⟩ (.int .i64 0)).setCell ⟨go, T.at' * 7 + 6, none⟩ (.bool false)) = w4 := ⟨_, rfl⟩
            have hw4' : set7 w3 go T.at' pGone = w4 := hw4
            rw [hw4'] at B4
            rw [hw4]
            clear hw4 hw4' c0 c1 c2 c3 c4 c5 c6 f0 f1 f2 f3 f4 f5 f6
            have B5 := Lib.hid (B4.out.1.field 5 (.int .i64 ((T.oldLen : Int) - 1)) { (T.put i false p.key p.en) with old := T.old.set T.at' pGone, oldLen := T.oldLen - 1 } (by unfold tabC; rw [show ((T.oldLen - 1 : Nat) : Int) = (T.oldLen : Int) - 1 from by omega]; rfl) rfl rfl)
            obtain ⟨⟨_, _, _, _, _, t5, _, _⟩, tf⟩ := B4.out.1.cells
            have t5' : w4.cell? ⟨tb, 5, none⟩ = some (.int .i64 (T.oldLen : Int)) := t5
            clear t5
            go_upto_region 8 with fail
            obtain ⟨w5, hw5⟩ : ∃ w5, w4.setCell ⟨tb, 5, none⟩ (.int .i64 ((T.oldLen : Int) - 1)) = w5 := ⟨_, rfl⟩
            rw [hw5] at B5
            rw [hw5]
            clear hw5 t5' tf
            have B6 := Lib.hid (B5.out.1.field 7 (.int .i64 ((T.work : Int) + 1)) { (T.put i false p.key p.en) with old := T.old.set T.at' pGone, oldLen := T.oldLen - 1, work := T.work + 1 } (by unfold tabC; rw [show ((T.work + 1 : Nat) : Int) = (T.work : Int) + 1 from by omega]; rfl) rfl rfl)
            obtain ⟨⟨_, _, _, _, _, _, _, t7⟩, tf⟩ := B5.out.1.cells
            have t7' : w5.cell? ⟨tb, 7, none⟩ = some (.int .i64 (T.work : Int)) := t7
            clear t7
            go_upto_region 2 with fail
            obtain ⟨w6, hw6⟩ : ∃ w6, w5.setCell ⟨tb, 7, none⟩ (.int .i64 ((T.work : Int) + 1)) = w6 := ⟨_, rfl⟩
            rw [hw6] at B6
            rw [hw6]
            clear hw6 t7' tf
            have B7 := Lib.hid (B6.out.1.field 4 (.int .i64 ((T.at' : Int) + 1)) (T.moved i p) (by unfold tabC; show _ = tabC (T.moved i p) vn _; unfold tabC Tab.moved; rw [show ((T.at' + 1 : Nat) : Int) = (T.at' : Int) + 1 from by omega]; rfl) rfl rfl)
            obtain ⟨⟨_, _, _, _, t4, _, _, _⟩, tf⟩ := B6.out.1.cells
            have t4' : w6.cell? ⟨tb, 4, none⟩ = some (.int .i64 (T.at' : Int)) := t4
            clear t4
            go_wp2_with fail
            go_roundg (T.old.length - (T.at' + 1))
            case measure => have := GK.out; omega
            case rel => exact ⟨T.moved i p, by show (T.old.set _ _).length - (T.at' + 1) = _; rw [List.length_set], moveR_moved M2.out HP.out HS.out h8' FR3.out F3.out B7.out.1 (((B4.out.2.mono (T := tfoot tb vn (.slice (some ⟨go, 0, none⟩) T.old.length capo)) (fun j _ e => .inr (.inr (by rw [e]; rfl)))).trans B5.out.2 (fun j e => .inl (.inl e))).trans (B6.out.2.trans B7.out.2 (fun j e => .inl e)) (fun j e => .inl (.inl e)))⟩
        · have hsb : ((p.st : Int) == 1) = false := by simp; omega
          go_wp2_with fail
          go_quiet (fail)
          go_wp2_with fail
          have SK := Lib.hid (moveR_skip (M.out.drewN nq) HP.out hs)
          go_roundg (T.old.length - (T.at' + 1))
          case measure => have := GK.out; omega
          case rel => exact ⟨_, rfl, SK.out⟩
end Go.Proofs.Ytbfkhghegkiifaa
