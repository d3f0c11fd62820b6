/-
  The contract of Delete.
-/
import Derived.Test.YtbfkhghegkiifaaTabRemove
namespace Go.Proofs.Ytbfkhghegkiifaa
open Go.RowKit
set_option linter.unusedVariables false
structure DelI (T T' : Tab) (k : ByteArray) (b : Bool) : Prop where
  ti : TI T'
  has : ∀ k' e', Has T' k' e' ↔ k' ≠ k ∧ Has T k' e'
  tot : T'.tot + (if b = true then 1 else 0) = T.tot
  hit : b = true ↔ ∃ e, Has T k e
  w8 : T'.work ≤ 8
def DelE (w : World) (tb : Nat) (vn vo : Value) (T : Tab) (k : ByteArray) (e' : Ending) (w' : World) : Prop :=
  ∃ b vo' T', e' = .returned (.bool b) ∧ Tb w' tb vn vo' T' ∧ St w w' tb vn vo vn vo' ∧ DelI T T' k b
def Tab.remd (T : Tab) (l : List Pl) : Tab := { T with now := l, nowLen := T.nowLen - 1 }
theorem del_old {w w1 w2 w3 : World} {tb : Nat} {vn vo vo' : Value} {T T1 T2 : Tab} {k : ByteArray} (hm : MoveQ w w1 tb vn vo vo' T T1) (hf : ForgQ w2 w3 tb vn vo' T1 T2 k true) : DelI T T2 k true := by
  obtain ⟨e, he⟩ := hf.hit.1 rfl
  have o1 := hf.ol; have o2 := hf.nl; have o3 := hm.tot; have o4 := hf.wk; have o5 := hm.w8
  simp only [if_true] at o1
  refine ⟨hf.ti, fun k' e' => ?_, by simp only [if_true]; unfold Tab.tot; omega, ⟨fun _ => ⟨e, (hm.has _ _).1 (.inr he)⟩, fun _ => rfl⟩, by omega⟩
  rw [← hm.has]
  unfold Has
  rw [hf.now, hf.old]
  constructor
  · rintro (h | ⟨h1, h2⟩)
    · exact ⟨fun e0 => by subst e0; exact hm.ti.disj _ _ _ h he, .inl h⟩
    · exact ⟨h1, .inr h2⟩
  · rintro ⟨h1, h2 | h2⟩
    · exact .inl h2
    · exact .inr ⟨h1, h2⟩
theorem del_none {w w1 w2 w3 : World} {tb i : Nat} {vn vo vo' : Value} {T T1 T2 : Tab} {k : ByteArray} (hm : MoveQ w w1 tb vn vo vo' T T1) (hf : ForgQ w2 w3 tb vn vo' T1 T2 k false) (hp : FindR T2.now (homeN T2.nb k) k i false) : DelI T T2 k false := by
  have o1 := hf.ol; have o2 := hf.nl; have o3 := hm.tot; have o4 := hf.wk; have o5 := hm.w8
  simp only [Bool.false_eq_true, if_false] at o1
  have hno : ∀ e, ¬ Has T k e := fun e hh => by
    rcases (hm.has k e).2 hh with h | h
    · exact find_none hf.ti.inow hp e (by rw [hf.now]; exact h)
    · exact absurd (hf.hit.2 ⟨e, h⟩) (by simp)
  refine ⟨hf.ti, fun k' e' => ?_, by simp only [Bool.false_eq_true, if_false]; unfold Tab.tot; omega, ⟨(fun h => by cases h), fun ⟨e, he⟩ => absurd he (hno e)⟩, by omega⟩
  rw [← hm.has]
  unfold Has
  rw [hf.now, hf.old]
  constructor
  · rintro (h | ⟨h1, h2⟩)
    · exact ⟨fun e0 => by subst e0; exact hno _ ((hm.has _ _).1 (.inl h)), .inl h⟩
    · exact ⟨h1, .inr h2⟩
  · rintro ⟨h1, h2 | h2⟩
    · exact .inl h2
    · exact .inr ⟨h1, h2⟩
theorem del_now {w w1 w2 w3 : World} {tb i : Nat} {vn vo vo' : Value} {T T1 T2 : Tab} {k : ByteArray} {p : Pl} {l' : List Pl} (hm : MoveQ w w1 tb vn vo vo' T T1) (hf : ForgQ w2 w3 tb vn vo' T1 T2 k false) (hp : T2.now[i]? = some p) (hp1 : p.st = 1) (hpk : p.key = k)
    (hl : l'.length = T2.now.length) (hI : Inv (homeN T2.nb) l') (hu : usedN l' + 1 = usedN T2.now) (hst : ∀ p ∈ l', p.st = 0 ∨ p.st = 1) (hh : ∀ ke e, HasK l' ke e ↔ HasK T2.now ke e ∧ ke ≠ p.key) : DelI T (T2.remd l') k true ∧ T2.nowLen ≠ 0 := by
  have o1 := hf.ol; have o2 := hf.nl; have o3 := hm.tot; have o4 := hf.wk; have o5 := hm.w8
  have hc := hf.ti.cnow; have hcap := hf.ti.cap; have hsl := hf.ti.slack
  simp only [Bool.false_eq_true, if_false] at o1
  subst hpk
  have e1 : (T2.remd l').nowLen = T2.nowLen - 1 := rfl
  have e2 : (T2.remd l').oldLen = T2.oldLen := rfl
  have e3 : (T2.remd l').nb = T2.nb := rfl
  have hk2 : HasK T2.now p.key p.en := ⟨i, p, hp, hp1, rfl, rfl⟩
  have hk1 : HasK T1.now p.key p.en := by rw [← hf.now]; exact hk2
  refine ⟨⟨⟨hf.ti.n3, hf.ti.n30, hl.trans hf.ti.nlen, hI, hst, by show usedN l' = _; omega, hf.ti.iold, hf.ti.cold, hf.ti.at0, fun k' e e' h1 h2 => hf.ti.disj k' e e' ((hh k' e).1 h1).1 h2, by rw [e1, e2, e3]; omega, by rw [e1, e2, e3]; omega, fun k' e h => hf.ti.ks k' e (h.imp (fun h => ((hh k' e).1 h).1) id)⟩, fun k' e' => ?_, by simp only [if_true]; unfold Tab.tot; rw [e1, e2]; omega, ⟨fun _ => ⟨p.en, (hm.has _ _).1 (.inl hk1)⟩, fun _ => rfl⟩, by show T2.work ≤ 8; omega⟩, by omega⟩
  rw [← hm.has]
  unfold Has
  show HasK l' k' e' ∨ HasK T2.old k' e' ↔ _
  rw [hh, hf.now, hf.old]
  constructor
  · rintro (⟨h1, h2⟩ | ⟨h1, h2⟩)
    · exact ⟨h2, .inl h1⟩
    · exact ⟨h1, .inr h2⟩
  · rintro ⟨h1, h2 | h2⟩
    · exact .inl ⟨h2, h1⟩
    · exact .inr ⟨h1, h2⟩
theorem Tb.newNow {w w' : World} {tb g cap : Nat} {vo : Value} {T : Tab} {l' : List Pl} (h : Tb w tb (.slice (some ⟨g, 0, none⟩) T.now.length cap) vo T) (hl : l'.length = T.now.length) (ho : w'.ownsRow 0 71 7 (.slice (some ⟨g, 0, none⟩) T.now.length cap) T.now.length (placesC l')) (hf : Fr (fun j => j = g) w w') :
    Tb w' tb (.slice (some ⟨g, 0, none⟩) T.now.length cap) vo { T with now := l' } := by
  have hg : (Value.slice (some ⟨g, 0, none⟩) T.now.length cap).ownBlock = some g := rfl
  refine ⟨(hf.block tb (blk_lt h.blk) (fun e => h.nn (by rw [hg, e]))).trans h.blk, ?_, own_fr h.old hf (fun j hj e => h.ne g hg (by rw [hj, e])), h.ne, h.nn, h.no⟩
  show World.ownsRow _ _ _ _ _ l'.length _
  rw [hl]; exact ho
set_option maxRecDepth 100000 in
set_option maxHeartbeats 8000000 in
theorem del13 (tb : Nat) (vn vo : Value) (T : Tab) (k : ByteArray) (w : World) (h : Tb w tb vn vo T) (hI : TI T) (hk : k.size ≤ 9223372036854775807) :
    Calls Try.prog 15 #[.pointer (some ⟨tb, 0, none⟩), .string k] w (DelE w tb vn vo T k) := by
  have M := Lib.hid (move23 tb vn vo T _ h hI)
  clear h hI
  go_enter Try.func15, Try.ntmps15
  go_wp2_with fail
  with_reducible refine M.out.mono ?_
  rintro e' w1 ⟨rfl, vo1, T1, hm⟩
  have HM := Lib.hid hm
  have FG := Lib.hid (forget24 tb vn vo1 T1 k w1 hk hm.tb' hm.ti)
  have ST1 := Lib.hid hm.st
  clear hm M
  go_wp2_with fail
  with_reducible refine FG.out.mono ?_
  rintro e' w2 ⟨b, T2, rfl, hf⟩
  have HF := Lib.hid hf
  have ST2 := Lib.hid (ST1.out.trans hf.st)
  clear FG ST1
  cases b with
  | true =>
    have Q := Lib.hid (del_old HM.out hf)
    clear hf
    go_wp2_with fail
    go_ret
    exact ⟨true, _, _, rfl, HF.out.tb', ST2.out, Q.out⟩
  | false =>
    have FN := Lib.hid (findNow hf.tb' hf.ti k hk)
    obtain ⟨⟨t0, t1, t2, t3, t4, t5, t6, t7⟩, tf⟩ := hf.tb'.cells
    clear hf
    go_wp2_with fail
    with_reducible refine FN.out.mono ?_
    rintro e' w3 ⟨i, b2, rfl, hfr, hb3⟩
    have FR := Lib.hid hfr
    have T3 := Lib.hid (HF.out.tb'.below hb3)
    have ST3 := Lib.hid (ST2.out.trans (.below hb3))
    clear t0 t1 t2 t3 t4 t5 t6 t7 tf hfr hb3 FN ST2
    cases b2 with
    | false =>
      have Q := Lib.hid (del_none HM.out HF.out FR.out)
      go_wp2_with fail
      go_ret
      exact ⟨false, _, _, rfl, T3.out, ST3.out, Q.out⟩
    | true =>
      obtain ⟨p, hp, hp1, hpk⟩ := find_true FR.out
      obtain ⟨g, cap, hvn, hcap⟩ := own_slice7 T3.out.now (by have := (List.getElem?_eq_some_iff.1 hp).1; omega)
      subst hvn
      have RM := Lib.hid (remove28 g T2.now.length T2.nb cap i T2.now p w3 HF.out.ti.nlen (by have := HF.out.ti.n3; omega) HF.out.ti.n30 rfl T3.out.now HF.out.ti.inow HF.out.ti.snow (fun q hq h1 => by
        obtain ⟨j, hj, e⟩ := List.getElem_of_mem hq
        exact HF.out.ti.ks q.key q.en (.inl ⟨j, q, by rw [List.getElem?_eq_getElem hj, e], h1, rfl, rfl⟩)) hp hp1 HF.out.ti.emp)
      have HP := Lib.hid hp; have HP1 := Lib.hid hp1; have HPK := Lib.hid hpk
      obtain ⟨⟨t0, t1, t2, t3, t4, t5, t6, t7⟩, tf⟩ := T3.out.cells
      have LE := HF.out.ti.len_le
      clear hp hp1 hpk
      go_wp2_with fail
      with_reducible refine RM.out.mono ?_
      rintro e' w4 ⟨rfl, l', hown, hl', hI', hu, hst, hh, hf4⟩
      obtain ⟨Q, hz⟩ := del_now HM.out HF.out HP.out HP1.out HPK.out hl' hI' hu hst hh
      have QH := Lib.hid Q
      have T4 := Lib.hid (T3.out.newNow hl' hown hf4)
      have F4 := Lib.hid hf4
      have T5 := Lib.hid (T4.out.field 6 (.int .i64 ((T2.nowLen : Int) - 1)) (T2.remd l') (by unfold tabC; show _ = tabC (T2.remd l') _ vo1; unfold tabC Tab.remd; rw [show ((T2.nowLen - 1 : Nat) : Int) = (T2.nowLen : Int) - 1 from by omega]; rfl) rfl rfl)
      clear t0 t1 t2 t3 t4 t5 t6 t7 tf hown hl' hI' hu hst hh hf4 Q RM
      obtain ⟨⟨_, _, _, _, _, _, t6, _⟩, tf⟩ := T4.out.cells
      have t6' : w4.cell? ⟨tb, 6, none⟩ = some (.int .i64 (T2.nowLen : Int)) := t6
      clear t6
      go_wp2_with fail
      go_ret
      refine ⟨true, _, _, rfl, T5.out.1, ST3.out.trans ⟨fun j hj => .inl hj, ?_⟩, QH.out⟩
      exact (F4.out.mono (T := tfoot tb (.slice (some ⟨g, 0, none⟩) T2.now.length cap) vo1) (fun j _ e => .inr (.inl (by rw [e]; rfl)))).trans T5.out.2 (fun j hj => .inl (.inl hj))
end Go.Proofs.Ytbfkhghegkiifaa
