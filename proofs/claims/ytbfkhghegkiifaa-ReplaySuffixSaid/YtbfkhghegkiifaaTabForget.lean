/-
  The contracts of forget, Len, Places, Work.
-/
import Derived.Test.YtbfkhghegkiifaaTabNew
namespace Go.Proofs.Ytbfkhghegkiifaa
open Go.RowKit
set_option linter.unusedVariables false
structure ForgQ (w w' : World) (tb : Nat) (vn vo : Value) (T T' : Tab) (k : ByteArray) (b : Bool) : Prop where
  tb' : Tb w' tb vn vo T'
  ti : TI T'
  now : T'.now = T.now
  nl : T'.nowLen = T.nowLen
  nb' : T'.nb = T.nb
  wk : T'.work = T.work
  ol : T'.oldLen + (if b = true then 1 else 0) = T.oldLen
  old : ∀ k' e, HasK T'.old k' e ↔ k' ≠ k ∧ HasK T.old k' e
  hit : b = true ↔ ∃ e, HasK T.old k e
  fr : Fr (tfoot tb vn vo) w w'
def ForgE (w : World) (tb : Nat) (vn vo : Value) (T : Tab) (k : ByteArray) (e' : Ending) (w' : World) : Prop := ∃ b T', e' = .returned (.bool b) ∧ ForgQ w w' tb vn vo T T' k b
theorem forg_none {w : World} {tb : Nat} {vn vo : Value} {T : Tab} {k : ByteArray} (h : Tb w tb vn vo T) (hI : TI T) (hno : ∀ e, ¬ HasK T.old k e) {w' : World} (hb : Below w.heap.size w w') : ForgQ w w' tb vn vo T T k false :=
  ⟨h.below hb, hI, rfl, rfl, rfl, rfl, rfl, fun k' e => ⟨fun h => ⟨fun e' => by subst e'; exact hno e h, h⟩, fun h => h.2⟩, ⟨(fun h => by cases h), fun ⟨e, h⟩ => absurd h (hno e)⟩, .of_below hb⟩
theorem forg_hit {w w2 w4 : World} {tb : Nat} {vn vo : Value} {T : Tab} {k : ByteArray} {p : Pl} {i : Nat} (hI : TI T) (hp : T.old[i]? = some p) (h1 : p.st = 1) (hk : p.key = k) (ht : Tb w4 tb vn vo (T.goneAt i)) (hb : Below w.heap.size w w2) (hf : Fr (tfoot tb vn vo) w2 w4) : ForgQ w w4 tb vn vo T (T.goneAt i) k true := by
  obtain ⟨g1, g2, g3⟩ := hI.gone hp h1
  subst hk
  exact ⟨ht, g1, rfl, rfl, rfl, rfl, g2, g3, ⟨fun _ => ⟨p.en, i, p, hp, h1, rfl, rfl⟩, fun _ => rfl⟩, (Fr.of_below (S := tfoot tb vn vo) hb).trans hf (fun j h => .inl h)⟩
set_option maxRecDepth 100000 in
set_option maxHeartbeats 8000000 in
theorem forget24 (tb : Nat) (vn vo : Value) (T : Tab) (k : ByteArray) (w : World) (hk : k.size ≤ 9223372036854775807) (h : Tb w tb vn vo T) (hI : TI T) :
    Calls Try.prog 22 #[.pointer (some ⟨tb, 0, none⟩), .string k] w (ForgE w tb vn vo T k) := by
  obtain ⟨⟨t0, t1, t2, t3, t4, t5, t6, t7⟩, tf⟩ := h.cells
  have LE := hI.len_le
  have HT := Lib.hid h
  have HI := Lib.hid hI
  clear h hI t0 t1 t4 t6 t7
  by_cases h0 : T.oldLen = 0
  · have Q := Lib.hid (forg_none (k := k) HT.out HI.out (fun e => used_zero (HI.out.cold.trans h0) k e) (Below.refl w.heap.size w))
    rw [h0] at t5
    go_enter Try.func22, Try.ntmps22
    go_wp2_with fail
    go_ret
    exact ⟨false, T, rfl, Q.out⟩
  · have hb0 : ((T.oldLen : Int) == 0) = false := by simp; omega
    have hat := HI.out.at_lt (by omega)
    obtain ⟨pp, hpp⟩ : ∃ p, T.old[T.at']? = some p := ⟨_, List.getElem?_eq_getElem hat⟩
    obtain ⟨o1, o2, o3, o4, o5⟩ := HI.out.old_inv hpp
    have hle := pow_le30 o3
    rw [← o1] at hle
    obtain ⟨go, capo, hvo, hcap⟩ := own_slice7 HT.out.old (by omega)
    subst hvo
    obtain ⟨_, _, hvs, hv, _, _, _, _, _⟩ := ownsRow_vals HT.out.old
    cases hvs
    have FI := Lib.hid (find25 T.old.length T.ob capo (some ⟨go, 0, none⟩) T.old k w rfl o1 o2 o3 hk hv o5)
    have OI := Lib.hid o4
    clear o1 o4 o5 hv hpp h0
    go_enter Try.func22, Try.ntmps22
    go_wp2_with fail
    with_reducible refine FI.out.mono ?_
    rintro e' w2 ⟨i, b, rfl, hfr, hb2⟩
    have T2 := Lib.hid (HT.out.below hb2)
    have B2 := Lib.hid hb2
    have FR := Lib.hid hfr
    clear hb2 hfr t2 t3 t5 tf
    cases b with
    | false =>
      have Q := Lib.hid (forg_none (k := k) HT.out HI.out (fun e => find_none OI.out FR.out e) B2.out)
      go_wp2_with fail
      go_ret
      exact ⟨false, T, rfl, Q.out⟩
    | true =>
      obtain ⟨p, hp, hp1, hpk⟩ := find_true FR.out
      have hil := (List.getElem?_eq_some_iff.1 hp).1
      have hii : (i : Int) < T.old.length := by omega
      obtain ⟨⟨c0, c1, c2, c3, c4, c5, c6⟩, ⟨f0, f1, f2, f3, f4, f5, f6⟩⟩ := own_cells T2.out.old i p hp
      obtain ⟨⟨_, _, t2, t3, _, _, _, _⟩, tf⟩ := T2.out.cells
      have HP := Lib.hid hp; have HP1 := Lib.hid hp1; have HPK := Lib.hid hpk
      have B4 := Lib.hid (T2.out.setOld i pGone)
      clear hp hp1 hpk
      go_upto_region 6 with fail
      obtain ⟨w4, hw4⟩ : ∃ w4, (((((((w2.setCell ⟨go, i * 7, none⟩ (.int .i64 2)).setCell ⟨go, i * 7 + 1, none⟩ (.string ⟨#[]⟩)).setCell ⟨go, i * 7 + 2, none⟩ (.int .i64 0)).setCell ⟨go, i * 7 + 3, none⟩ (.int .i64 0)).setCell ⟨go, i * 7 + 4, none⟩ (.int .i64 0)).setCell ⟨go, i * 7 + 5, none⟩ (.int .i64 0)).setCell ⟨go, i * 7 + 6, none⟩ (.bool false)) = w4 := ⟨_, rfl⟩
      have hw4' : set7 w2 go i pGone = w4 := hw4
      rw [hw4'] at B4
      rw [hw4]
      clear hw4 hw4' c0 c1 c2 c3 c4 c5 c6 f0 f1 f2 f3 f4 f5 f6 t2 t3 tf
      have B5 := Lib.hid (B4.out.1.field 5 (.int .i64 ((T.oldLen : Int) - 1)) (T.goneAt i) (by unfold tabC; show _ = tabC (T.goneAt i) vn _; unfold tabC Tab.goneAt; rw [show ((T.oldLen - 1 : Nat) : Int) = (T.oldLen : Int) - 1 from by have := HI.out.gone HP.out HP1.out; omega]; rfl) rfl rfl)
      obtain ⟨⟨_, _, _, _, _, t5, _, _⟩, tf⟩ := B4.out.1.cells
      have t5' : w4.cell? ⟨tb, 5, none⟩ = some (.int .i64 (T.oldLen : Int)) := t5
      clear t5
      go_wp2_with fail
      go_ret
      exact ⟨true, _, rfl, forg_hit HI.out HP.out HP1.out HPK.out B5.out.1 B2.out ((B4.out.2.mono (T := tfoot tb vn (.slice (some ⟨go, 0, none⟩) T.old.length capo)) (fun j _ e => .inr (.inr (by rw [e]; rfl)))).trans B5.out.2 (fun j e => .inl (.inl e)))⟩
theorem len15 (tb : Nat) (vn vo : Value) (T : Tab) (w : World) (h : Tb w tb vn vo T) (hle : T.nowLen + T.oldLen ≤ 1073741824) :
    Calls Try.prog 33 #[.pointer (some ⟨tb, 0, none⟩)] w fun e' w' => e' = .returned (.int .i64 ((T.nowLen + T.oldLen : Nat) : Int)) ∧ ∃ m, w' = w.drewN m := by
  obtain ⟨⟨_, _, _, _, _, t5, t6, _⟩, _⟩ := h.cells
  clear h
  rw [show ((T.nowLen + T.oldLen : Nat) : Int) = (T.nowLen : Int) + (T.oldLen : Int) from by omega]
  go_enter Try.func33, Try.ntmps33
  go_wp2_with fail
  go_quiet (fail)
  go_wp2_with fail
  go_ret
  exact ⟨rfl, nq, rfl⟩
end Go.Proofs.Ytbfkhghegkiifaa
