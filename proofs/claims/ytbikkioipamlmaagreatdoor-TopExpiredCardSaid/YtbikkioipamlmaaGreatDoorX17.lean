/-
  Laws and contracts for the statement TopExpired.
-/
import Derived.Test.YtbikkioipamlmaaGreatDoorX16
open Go.Lib (hid)
open Go.Proofs.Tryz (prog)
set_option linter.unusedVariables false
set_option linter.unusedSimpArgs false
set_option maxRecDepth 100000
set_option maxHeartbeats 20000000
namespace Go.Proofs.YtbikkioipamlmaaGreatDoor.T16
open Go.RowKit
structure St (w w' : World) (tb : Nat) (vn vo vn' vo' : Value) : Prop where
  own : ∀ j, tfoot tb vn' vo' j -> tfoot tb vn vo j \/ w.heap.size <= j
  fr : Fr (tfoot tb vn vo) w w'
theorem St.trans {a b c : World} {tb : Nat} {v0 u0 v1 u1 v2 u2 : Value} (h : St a b tb v0 u0 v1 u1) (k : St b c tb v1 u1 v2 u2) : St a c tb v0 u0 v2 u2 := by
  have hs := h.fr.size
  refine ⟨fun j hj => ?_, h.fr.trans k.fr h.own⟩
  rcases k.own j hj with h1 | h1
  · exact h.own j h1
  · exact .inr (by omega)
theorem St.below {a b : World} {tb : Nat} {v u : Value} (h : Below a.heap.size a b) : St a b tb v u v u := ⟨fun j hj => .inl hj, .of_below h⟩
theorem MoveQ.st {w w' : World} {tb : Nat} {vn vo vo' : Value} {T T' : Tab} (h : MoveQ w w' tb vn vo vo' T T') : St w w' tb vn vo vn vo' :=
  ⟨fun j hj => .inl (hj.imp id (fun h1 => h1.imp id (fun h2 => h.own j h2))), h.fr⟩
theorem ForgQ.st {w w' : World} {tb : Nat} {vn vo : Value} {T T' : Tab} {k : ByteArray} {b : Bool} (h : ForgQ w w' tb vn vo T T' k b) : St w w' tb vn vo vn vo := ⟨fun j hj => .inl hj, h.fr⟩
theorem GrowQ.st {w w' : World} {tb : Nat} {vn vo vn' vo' : Value} {T T' : Tab} (h : GrowQ w w' tb vn vo vn' vo' T T') : St w w' tb vn vo vn' vo' := ⟨h.own, h.fr.mono (fun j _ e => .inl e)⟩
def Tab.tot (T : Tab) : Nat := T.nowLen + T.oldLen
theorem findNow {w : World} {tb : Nat} {vn vo : Value} {T : Tab} (h : Tb w tb vn vo T) (hI : TI T) (k : ByteArray) (hk : k.size <= 9223372036854775807) :
    Calls prog 203 #[.agg #[.int .i64 (T.nb : Int), vn], .string k] w (FindE w T.now (homeN T.nb k) k) := by
  obtain ⟨g, cap, rfl, hcap⟩ := own_slice7 h.now (by rw [hI.nlen]; exact Nat.pow_pos (by omega))
  obtain ⟨_, _, hvs, hv, _, _, _, _, _⟩ := ownsRow_vals h.now
  cases hvs
  exact find25 T.now.length T.nb cap (some ⟨g, 0, none⟩) T.now k w rfl hI.nlen (by have := hI.n3; omega) hI.n30 hk hv hI.emp
theorem findOld {w : World} {tb : Nat} {vn vo : Value} {T : Tab} (h : Tb w tb vn vo T) (hI : TI T) (k : ByteArray) (hk : k.size <= 9223372036854775807) (h0 : 0 < T.oldLen) :
    Calls prog 203 #[.agg #[.int .i64 (T.ob : Int), vo], .string k] w (FindE w T.old (homeN T.ob k) k) := by
  have hat := hI.at_lt h0
  obtain ⟨o1, o2, o3, o4, o5⟩ := hI.old_inv (List.getElem?_eq_getElem hat)
  obtain ⟨g, cap, rfl, hcap⟩ := own_slice7 h.old (by omega)
  obtain ⟨_, _, hvs, hv, _, _, _, _, _⟩ := ownsRow_vals h.old
  cases hvs
  exact find25 T.old.length T.ob cap (some ⟨g, 0, none⟩) T.old k w rfl o1 o2 o3 hk hv o5
theorem TI.put {T : Tab} {i : Nat} {b : Bool} {k : ByteArray} {e : Ent} (h : TI T) (f : FindR T.now (homeN T.nb k) k i b) (hno : ∀ e', ¬ HasK T.old k e')
    (hroom : b = true \/ (4 * T.tot + 4 <= 3 * 2 ^ T.nb /\ T.oldLen + 8 * T.tot + 8 <= 6 * 2 ^ T.nb)) (hk : k.size <= 9223372036854775807) :
    TI (T.put i b k e) /\ ∀ k' e', Has (T.put i b k e) k' e' ↔ (k' = k /\ e' = e) \/ (k' ≠ k /\ Has T k' e') := by
  have hput := put_has h (e := e) f
  have hu := put_used (e := e) f
  have hcn := h.cnow
  have hcap := h.cap
  have hsl := h.slack
  unfold Tab.tot at hroom
  have e3 : (T.put i b k e).nowLen = T.nowLen + (if b = true then 0 else 1) := rfl
  have e2 : (T.put i b k e).oldLen = T.oldLen := rfl
  have e4 : (T.put i b k e).nb = T.nb := rfl
  have hhas : ∀ k' e', Has (T.put i b k e) k' e' ↔ (k' = k /\ e' = e) \/ (k' ≠ k /\ Has T k' e') := fun k' e' => by
    constructor
    · rintro (hh | hh)
      · rcases (hput k' e').1 hh with h1 | ⟨h1, h2⟩
        · exact .inl h1
        · exact .inr ⟨h1, .inl h2⟩
      · exact .inr ⟨fun e0 => by subst e0; exact hno e' hh, .inr hh⟩
    · rintro (h1 | ⟨h1, h2 | h2⟩)
      · exact .inl ((hput k' e').2 (.inl h1))
      · exact .inl ((hput k' e').2 (.inr ⟨h1, h2⟩))
      · exact .inr h2
  refine ⟨⟨h.n3, h.n30, by show (T.now.set i _).length = _; rw [List.length_set]; exact h.nlen, put_inv h f, put_st h i _ _, ?_, h.iold, h.cold, h.at0, ?_, ?_, ?_, ?_⟩, hhas⟩
  · show usedN (T.now.set i _) = _
    rw [hu, e3]; omega
  · intro k' e' e'' hh hh'
    rcases (hput k' e').1 hh with ⟨rfl, _⟩ | ⟨_, h3⟩
    · exact hno e'' hh'
    · exact h.disj k' e' e'' h3 hh'
  · rw [e2, e3, e4]
    rcases hroom with rfl | ⟨h1, _⟩
    · simp; omega
    · split <;> omega
  · rw [e2, e3, e4]
    rcases hroom with rfl | ⟨_, h1⟩
    · simp; omega
    · split <;> omega
  · intro k' e' hh
    rcases (hhas k' e').1 hh with ⟨rfl, _⟩ | ⟨_, h1⟩
    · exact hk
    · exact h.ks k' e' h1
structure SetI (T T' : Tab) (k : ByteArray) (e : Ent) : Prop where
  ti : TI T'
  has : ∀ k' e', Has T' k' e' ↔ (k' = k /\ e' = e) \/ (k' ≠ k /\ Has T k' e')
  tot : ((∃ e0, Has T k e0) /\ T'.tot = T.tot) \/ ((∀ e0, ¬ Has T k e0) /\ T'.tot = T.tot + 1)
  w8 : T'.work <= 8
theorem ready_move {w w' : World} {tb : Nat} {vn vo vo' : Value} {T T' : Tab} (hI : TI T) (h : MoveQ w w' tb vn vo vo' T T') : Ready T' := by
  have h1 := h.ol
  have h2 := h.tot
  have h3 := hI.slack
  unfold Ready
  rw [h.nb']
  omega
theorem ready_forg {w w' : World} {tb : Nat} {vn vo : Value} {T T' : Tab} {k : ByteArray} {b : Bool} (hr : Ready T) (h : ForgQ w w' tb vn vo T T' k b) : Ready T' := by
  have h1 := h.ol
  have h2 := h.nl
  unfold Ready at *
  rw [h.nb']
  split at h1 <;> omega
theorem set_over {T T1 T2 : Tab} {w w1 w2 w3 : World} {tb i : Nat} {vn vo vo' : Value} {k : ByteArray} {e : Ent} {b : Bool} (hm : MoveQ w w1 tb vn vo vo' T T1) (hf : ForgQ w2 w3 tb vn vo' T1 T2 k b) (hp : FindR T2.now (homeN T2.nb k) k i true) (hk : k.size <= 9223372036854775807) :
    SetI T (T2.put i true k e) k e := by
  have hno : ∀ e', ¬ HasK T2.old k e' := fun e' hh => ((hf.old k e').1 hh).1 rfl
  obtain ⟨q, hq, hq1, hqk⟩ := find_true hp
  have hn1 : HasK T1.now k q.en := by rw [<- hf.now]; exact ⟨i, q, hq, hq1, hqk, rfl⟩
  have hbf : b = false := by
    cases b with
    | false => rfl
    | true => obtain ⟨e', he'⟩ := hf.hit.1 rfl; exact absurd he' (hm.ti.disj k q.en e' hn1)
  subst hbf
  obtain ⟨t1, t2⟩ := hf.ti.put (e := e) hp hno (.inl rfl) hk
  refine ⟨t1, fun k' e' => ?_, .inl ⟨⟨q.en, (hm.has _ _).1 (.inl hn1)⟩, ?_⟩, by show T2.work <= 8; rw [hf.wk]; exact hm.w8⟩
  · rw [t2, <- hm.has k' e']
    have : k' ≠ k -> (Has T2 k' e' ↔ Has T1 k' e') := fun hne => by
      unfold Has; rw [hf.now, hf.old]; simp [hne]
    constructor
    · rintro (h1 | ⟨h1, h2⟩)
      · exact .inl h1
      · exact .inr ⟨h1, (this h1).1 h2⟩
    · rintro (h1 | ⟨h1, h2⟩)
      · exact .inl h1
      · exact .inr ⟨h1, (this h1).2 h2⟩
  · have h1 := hf.ol; have h2 := hf.nl; have h3 := hm.tot
    simp at h1
    unfold Tab.tot
    show T2.nowLen + 0 + T2.oldLen = _
    omega
theorem set_new {T T1 T2 T3 T4 : Tab} {w w1 w2 w3 w4 w5 : World} {tb i : Nat} {vn vo vo' vn'' vo'' : Value} {k : ByteArray} {e : Ent} {b b3 b4 : Bool} {i2 : Nat} (hm : MoveQ w w1 tb vn vo vo' T T1) (hf : ForgQ w2 w3 tb vn vo' T1 T2 k b) (hp : FindR T2.now (homeN T2.nb k) k i2 false) (hg : GrowI T2 T3)
    (hf2 : ForgQ w4 w5 tb vn'' vo'' T3 T4 k b3) (hp2 : FindR T4.now (homeN T4.nb k) k i b4) (hk : k.size <= 9223372036854775807) : SetI T (T4.put i b4 k e) k e := by
  have hno2 : ∀ e', ¬ Has T2 k e' := fun e' hh => hh.elim (fun hh => find_none hf.ti.inow hp e' hh) (fun hh => ((hf.old k e').1 hh).1 rfl)
  have hno3 : ∀ e', ¬ Has T3 k e' := fun e' hh => hno2 e' ((hg.has k e').1 hh)
  have hb3 : b3 = false := by
    cases b3 with
    | false => rfl
    | true => obtain ⟨e', he'⟩ := hf2.hit.1 rfl; exact absurd (.inr he') (hno3 e')
  subst hb3
  have hno4 : ∀ e', ¬ HasK T4.old k e' := fun e' hh => ((hf2.old k e').1 hh).1 rfl
  have hb4 : b4 = false := by
    cases b4 with
    | false => rfl
    | true =>
      obtain ⟨q, hq, hq1, hqk⟩ := find_true hp2
      exact absurd (show Has T3 k q.en from .inl (by rw [<- hf2.now]; exact ⟨i, q, hq, hq1, hqk, rfl⟩)) (hno3 q.en)
  subst hb4
  have o1 := hf2.ol; have o2 := hf2.nl; have o3 := hg.tot; have o4 := hf.ol; have o5 := hf.nl; have o6 := hm.tot
  have c1 := hg.cap1; have c2 := hg.room; have c3 := hf2.nb'
  simp only [Bool.false_eq_true, if_false] at o1
  obtain ⟨t1, t2⟩ := hf2.ti.put (e := e) hp2 hno4 (.inr (by unfold Tab.tot; rw [c3]; constructor <;> omega)) hk
  have hre : ∀ k', k' ≠ k -> ∀ e', (Has T4 k' e' ↔ Has T k' e') := fun k' hne e' => by
    have e1 : Has T4 k' e' ↔ Has T3 k' e' := by unfold Has; rw [hf2.now, hf2.old]; simp [hne]
    have e2 : Has T2 k' e' ↔ Has T1 k' e' := by unfold Has; rw [hf.now, hf.old]; simp [hne]
    rw [e1, hg.has, e2, hm.has]
  have hw1 := hf2.wk; have hw2 := hg.wk; have hw3 := hf.wk; have hw4 := hm.w8
  refine ⟨t1, fun k' e' => ?_, ?_, by show T4.work <= 8; omega⟩
  · rw [t2]
    constructor
    · rintro (h1 | ⟨h1, h2⟩)
      · exact .inl h1
      · exact .inr ⟨h1, (hre k' h1 e').1 h2⟩
    · rintro (h1 | ⟨h1, h2⟩)
      · exact .inl h1
      · exact .inr ⟨h1, (hre k' h1 e').2 h2⟩
  · have ht : (T4.put i false k e).tot = T2.tot + 1 := by unfold Tab.tot; show T4.nowLen + 1 + T4.oldLen = _; omega
    cases b with
    | true =>
      obtain ⟨e', he'⟩ := hf.hit.1 rfl
      simp only [if_true] at o4
      refine .inl ⟨⟨e', (hm.has _ _).1 (.inr he')⟩, ?_⟩
      rw [ht]; unfold Tab.tot; omega
    | false =>
      simp only [Bool.false_eq_true, if_false] at o4
      refine .inr ⟨fun e0 hh => ?_, by rw [ht]; unfold Tab.tot; omega⟩
      rcases (hm.has k e0).2 hh with h1 | h1
      · exact hno2 e0 (.inl (by rw [hf.now]; exact h1))
      · exact absurd (hf.hit.2 ⟨e0, h1⟩) (by simp)
def SetE (w : World) (tb : Nat) (vn vo : Value) (T : Tab) (k : ByteArray) (e : Ent) (e' : Ending) (w' : World) : Prop :=
  e' = .returned (.tuple #[]) /\ ∃ vn' vo' T', Tb w' tb vn' vo' T' /\ St w w' tb vn vo vn' vo' /\ SetI T T' k e
theorem set9 (tb : Nat) (vn vo : Value) (T : Tab) (k : ByteArray) (e : Ent) (w : World) (h : Tb w tb vn vo T) (hI : TI T) (hk : k.size <= 9223372036854775807) (hs : T.tot <= 1000000) :
    Calls prog 132 #[.pointer (some ⟨tb, 0, none⟩), .string k, entV e] w (SetE w tb vn vo T k e) := by
  have hbx : Below w.heap.size w (w.alloc (.cells #[.int .i64 e.seq, .int .i64 e.off, .int .i64 e.len, .int .i64 e.exp, .bool e.hit] 110)) := (Below.refl _ _).alloc (Nat.le_refl _) _
  have M := hid (move23 tb vn vo T _ (h.below hbx) hI)
  have HI := hid hI
  have ST0 := hid (St.below (tb := tb) (v := vn) (u := vo) hbx)
  have XL := hid (fun k hk => h.lt k hk)
  unfold entV
  have HS := hid hs
  unfold Tab.tot at HS
  clear h hI hbx hs
  go_enter Tryz.func132, Tryz.ntmps132
  go_wp2_with fail
  with_reducible refine M.out.mono ?_
  rintro e' w1 ⟨rfl, vo1, T1, hm⟩
  have HM := hid hm
  have hx : w1.heap[w.heap.size]? = some (.cells #[.int .i64 e.seq, .int .i64 e.off, .int .i64 e.len, .int .i64 e.exp, .bool e.hit] 110 (0, 0)) := by
    rw [hm.fr.block w.heap.size (by simp) (fun hj => by have := XL.out _ hj; omega)]
    show (w.heap.push _)[w.heap.size]? = _
    simp
  have HX := hid hx
  have ST1 := hid (ST0.out.trans hm.st)
  have XN := hid (show ¬ tfoot tb vn vo1 w.heap.size from fun hj => by have := XL.out w.heap.size (hj.imp id (fun h1 => h1.imp id (fun h2 => hm.own _ h2))); omega)
  have XS := hid (show w.heap.size < w1.heap.size from lB hx)
  have FG := hid (forget24 tb vn vo1 T1 k w1 hk hm.tb' hm.ti)
  clear hm hx M ST0
  go_wp2_with fail
  with_reducible refine FG.out.mono ?_
  rintro e' w2 ⟨b, T2, rfl, hf⟩
  have HF := hid hf
  have HX2 := hid ((hf.fr.block w.heap.size XS.out XN.out).trans HX.out)
  have ST2 := hid (ST1.out.trans hf.st)
  have XS2 := hid (Nat.lt_of_lt_of_le XS.out hf.fr.size)
  have FN := hid (findNow hf.tb' hf.ti k hk)
  obtain ⟨⟨t0, t1, t2, t3, t4, t5, t6, t7⟩, tf⟩ := hf.tb'.cells
  clear hf FG HX XS
  go_wp2_with fail
  with_reducible refine FN.out.mono ?_
  rintro e' w3 ⟨i, b2, rfl, hfr, hb3⟩
  have FR := hid hfr
  have TB3 := hid (HF.out.tb'.below hb3)
  have HX3 := hid ((hb3.block w.heap.size XS2.out).trans HX2.out)
  have ST3 := hid (ST2.out.trans (.below hb3))
  have XS3 := hid (Nat.lt_of_lt_of_le XS2.out hb3.size)
  have HL := hid (show T2.tot <= 1000000 from by
    have o4 := HF.out.ol; have o5 := HF.out.nl; have o6 := HM.out.tot; have := HS.out
    unfold Tab.tot; split at o4 <;> omega)
  clear t0 t1 t2 t3 t4 t5 t6 t7 tf hfr hb3 FN ST1 ST2 HX2 XS2
  cases b2 with
  | true =>
    have PU := hid (put27 tb vn vo1 T2 k e w3 TB3.out HF.out.ti.nlen (by have := HF.out.ti.n3; omega) HF.out.ti.n30 hk (by have := HL.out; unfold Tab.tot at this; omega) HF.out.ti.emp)
    have x0 := qB (i := 0) HX3.out; have x1 := qB (i := 1) HX3.out; have x2 := qB (i := 2) HX3.out; have x3 := qB (i := 3) HX3.out; have x4 := qB (i := 4) HX3.out
    simp only [List.getElem?_toArray, List.getElem?_cons_zero, List.getElem?_cons_succ] at x0 x1 x2 x3 x4
    go_wp2_with fail
    with_reducible refine PU.out.mono ?_
    rintro e' w4 ⟨rfl, i2, b2, f2, tb4, fr4⟩
    have hb2 : b2 = true := by
      cases b2 with
      | true => rfl
      | false =>
        obtain ⟨q, hq, hq1, hqk⟩ := find_true FR.out
        exact absurd ⟨i, q, hq, hq1, hqk, rfl⟩ (find_none HF.out.ti.inow f2 q.en)
    subst hb2
    have Q := hid (set_over (e := e) HM.out HF.out f2 hk)
    have T4 := hid tb4
    have ST4 := hid (ST3.out.trans (⟨fun j hj => .inl hj, fr4.mono (fun j _ hj => hj.imp id .inl)⟩ : St w3 w4 tb vn vo1 vn vo1))
    clear x0 x1 x2 x3 x4 tb4 fr4 f2 PU
    go_wp2_with fail
    go_end0
    exact ⟨rfl, _, _, _, T4.out, ST4.out, Q.out⟩
  | false =>
    have GR := hid (grow26 tb vn vo1 T2 w3 TB3.out HF.out.ti (ready_forg (ready_move HI.out HM.out) HF.out) HL.out)
    go_wp2_with fail
    with_reducible refine GR.out.mono ?_
    rintro e' w4 ⟨rfl, vn4, vo4, T4, hg⟩
    have HG := hid hg
    have ne3 : w.heap.size ≠ tb := fun e => XN.out (.inl e)
    have HX4 := hid ((hg.fr.block w.heap.size XS3.out ne3).trans HX3.out)
    have XN4 := hid (show ¬ tfoot tb vn4 vo4 w.heap.size from fun hj => by
      rcases hg.own _ hj with h1 | h1
      · exact XN.out h1
      · have := XS3.out; omega)
    have XS4 := hid (Nat.lt_of_lt_of_le XS3.out hg.fr.size)
    have ST4 := hid (ST3.out.trans hg.st)
    have FG := hid (forget24 tb vn4 vo4 T4 k w4 hk hg.tb' hg.gi.ti)
    clear hg GR ne3
    go_wp2_with fail
    with_reducible refine FG.out.mono ?_
    rintro e' w5 ⟨b5, T5, rfl, hf5⟩
    have HF5 := hid hf5
    have HX5 := (hf5.fr.block w.heap.size XS4.out XN4.out).trans HX4.out
    have ST5 := hid (ST4.out.trans hf5.st)
    have HN5 : T5.nowLen <= 2000000000 := by
      have h1 := hf5.nl; have h2 := HG.out.gi.tot; have h3 := HL.out; unfold Tab.tot at h3; omega
    have PU := hid (put27 tb vn4 vo4 T5 k e w5 hf5.tb' hf5.ti.nlen (by have := hf5.ti.n3; omega) hf5.ti.n30 hk HN5 hf5.ti.emp)
    have x0 := qB (i := 0) HX5; have x1 := qB (i := 1) HX5; have x2 := qB (i := 2) HX5; have x3 := qB (i := 3) HX5; have x4 := qB (i := 4) HX5
    simp only [List.getElem?_toArray, List.getElem?_cons_zero, List.getElem?_cons_succ] at x0 x1 x2 x3 x4
    clear hf5 HX5 FG
    go_wp2_with fail
    with_reducible refine PU.out.mono ?_
    rintro e' w6 ⟨rfl, i6, b6, f6, tb6, fr6⟩
    have Q := hid (set_new (e := e) HM.out HF.out FR.out HG.out.gi HF5.out f6 hk)
    have T6 := hid tb6
    have ST6 := hid (ST5.out.trans (⟨fun j hj => .inl hj, fr6.mono (fun j _ hj => hj.imp id .inl)⟩ : St w5 w6 tb vn4 vo4 vn4 vo4))
    clear x0 x1 x2 x3 x4 tb6 fr6 f6 PU
    go_wp2_with fail
    go_end0
    exact ⟨rfl, _, _, _, T6.out, ST6.out, Q.out⟩
def ent0 : Ent := ⟨0, 0, 0, 0, false⟩
structure GetI (T T' : Tab) (k : ByteArray) (b : Bool) (x : Ent) : Prop where
  ti : TI T'
  has : ∀ k' e', Has T' k' e' ↔ Has T k' e'
  tot : T'.tot = T.tot
  w8 : T'.work <= 8
  hit : b = true -> Has T k x
  miss : b = false -> (∀ e, ¬ Has T k e) /\ x = ent0
def GetE (w : World) (tb : Nat) (vn vo : Value) (T : Tab) (k : ByteArray) (e' : Ending) (w' : World) : Prop :=
  ∃ b x vo' T', e' = .returned (.tuple #[entV x, .bool b]) /\ Tb w' tb vn vo' T' /\ St w w' tb vn vo vn vo' /\ GetI T T' k b x
theorem get_now {w w1 : World} {tb i : Nat} {vn vo vo' : Value} {T T' : Tab} {k : ByteArray} {p : Pl} (h : MoveQ w w1 tb vn vo vo' T T') (f : FindR T'.now (homeN T'.nb k) k i true) (hp : T'.now[i]? = some p) : GetI T T' k true p.en := by
  obtain ⟨q, hq, hq1, hqk⟩ := find_true f
  rw [hp] at hq; cases hq
  exact ⟨h.ti, h.has, h.tot, h.w8, fun _ => (h.has _ _).1 (.inl ⟨i, p, hp, hq1, hqk, rfl⟩), fun e => by cases e⟩
theorem get_old {w w1 : World} {tb i : Nat} {vn vo vo' : Value} {T T' : Tab} {k : ByteArray} {p : Pl} (h : MoveQ w w1 tb vn vo vo' T T') (f : FindR T'.old (homeN T'.ob k) k i true) (hp : T'.old[i]? = some p) : GetI T T' k true p.en := by
  obtain ⟨q, hq, hq1, hqk⟩ := find_true f
  rw [hp] at hq; cases hq
  exact ⟨h.ti, h.has, h.tot, h.w8, fun _ => (h.has _ _).1 (.inr ⟨i, p, hp, hq1, hqk, rfl⟩), fun e => by cases e⟩
theorem get_miss {w w1 : World} {tb i : Nat} {vn vo vo' : Value} {T T' : Tab} {k : ByteArray} (h : MoveQ w w1 tb vn vo vo' T T') (f : FindR T'.now (homeN T'.nb k) k i false) (ho : ∀ e, ¬ HasK T'.old k e) : GetI T T' k false ent0 :=
  ⟨h.ti, h.has, h.tot, h.w8, fun e => (by cases e), fun _ => ⟨fun e hh => ((h.has k e).2 hh).elim (fun hh => find_none h.ti.inow f e hh) (ho e), rfl⟩⟩
theorem TI.old_find {T : Tab} (h : TI T) (h0 : 0 < T.oldLen) : Inv (homeN T.ob) T.old := (h.old_inv (List.getElem?_eq_getElem (h.at_lt h0))).2.2.2.1
def set5 (w : World) (b : Nat) (x : Ent) : World := ((((w.setCell ⟨b, 0, none⟩ (.int .i64 x.seq)).setCell ⟨b, 1, none⟩ (.int .i64 x.off)).setCell ⟨b, 2, none⟩ (.int .i64 x.len)).setCell ⟨b, 3, none⟩ (.int .i64 x.exp)).setCell ⟨b, 4, none⟩ (.bool x.hit)
theorem set5_cells {w : World} {b : Nat} {a0 a1 a2 a3 a4 : Value} (h : w.heap[b]? = some (.cells #[a0, a1, a2, a3, a4] 110 (0, 0))) (x : Ent) : (set5 w b x).cell? ⟨b, 0, none⟩ = some (.int .i64 x.seq) /\ (set5 w b x).cell? ⟨b, 1, none⟩ = some (.int .i64 x.off) /\ (set5 w b x).cell? ⟨b, 2, none⟩ = some (.int .i64 x.len) /\ (set5 w b x).cell? ⟨b, 3, none⟩ = some (.int .i64 x.exp) /\ (set5 w b x).cell? ⟨b, 4, none⟩ = some (.bool x.hit) := by
  have q : (set5 w b x).heap[b]? = some (.cells #[.int .i64 x.seq, .int .i64 x.off, .int .i64 x.len, .int .i64 x.exp, .bool x.hit] 110 (0, 0)) := by
    unfold set5
    rw [uB (uB (uB (uB (uB h _) _) _) _) _]
    rfl
  have x0 := qB (i := 0) q; have x1 := qB (i := 1) q; have x2 := qB (i := 2) q; have x3 := qB (i := 3) q; have x4 := qB (i := 4) q
  simp only [List.getElem?_toArray, List.getElem?_cons_zero, List.getElem?_cons_succ] at x0 x1 x2 x3 x4
  exact ⟨x0, x1, x2, x3, x4⟩
theorem fr_set (w : World) (b i : Nat) (v : Value) : Fr (fun j => j = b) w (w.setCell ⟨b, i, none⟩ v) := ⟨rfl, rfl, rfl, by simp [World.setCell], fun k _ hne => Below.heap_setCell _ _ _ _ hne⟩
theorem get_end {w w2 : World} {tb : Nat} {vn vo vo1 : Value} {T T1 : Tab} {k : ByteArray} {b : Bool} {x : Ent} (st : St w w2 tb vn vo vn vo1) (t2 : Tb w2 tb vn vo1 T1) (xn : ¬ tfoot tb vn vo1 w.heap.size) (q : GetI T T1 k b x) :
    GetE w tb vn vo T k (.returned (.tuple #[entV x, .bool b])) (set5 w2 w.heap.size x) := by
  have hf : Fr (fun j => j = w.heap.size) w2 (set5 w2 w.heap.size x) := by
    unfold set5
    exact ((((fr_set _ _ _ _).trans (fr_set _ _ _ _) (fun j hj => .inl hj)).trans (fr_set _ _ _ _) (fun j hj => .inl hj)).trans (fr_set _ _ _ _) (fun j hj => .inl hj)).trans (fr_set _ _ _ _) (fun j hj => .inl hj)
  exact ⟨b, x, vo1, T1, rfl, t2.frame hf (fun k hk e => xn (by rw [<- e]; exact hk)), ⟨st.own, st.fr.trans hf (fun j hj => .inr (by rw [hj]; exact Nat.le_refl _))⟩, q⟩
theorem get10 (tb : Nat) (vn vo : Value) (T : Tab) (k : ByteArray) (w : World) (h : Tb w tb vn vo T) (hI : TI T) (hk : k.size <= 9223372036854775807) :
    Calls prog 140 #[.pointer (some ⟨tb, 0, none⟩), .string k] w (GetE w tb vn vo T k) := by
  have hbx : Below w.heap.size w (w.alloc (.cells #[.int .i64 0, .int .i64 0, .int .i64 0, .int .i64 0, .bool false] 110)) := (Below.refl _ _).alloc (Nat.le_refl _) _
  have M := hid (move23 tb vn vo T _ (h.below hbx) hI)
  have ST0 := hid (St.below (tb := tb) (v := vn) (u := vo) hbx)
  have XL := hid (fun k hk => h.lt k hk)
  clear h hI hbx
  go_enter Tryz.func140, Tryz.ntmps140
  go_wp2_with fail
  with_reducible refine M.out.mono ?_
  rintro e' w1 ⟨rfl, vo1, T1, hm⟩
  have HM := hid hm
  have hx : w1.heap[w.heap.size]? = some (.cells #[.int .i64 0, .int .i64 0, .int .i64 0, .int .i64 0, .bool false] 110 (0, 0)) := by
    rw [hm.fr.block w.heap.size (by simp) (fun hj => by have := XL.out _ hj; omega)]
    show (w.heap.push _)[w.heap.size]? = _
    simp
  have HX := hid hx
  have ST1 := hid (ST0.out.trans hm.st)
  have XN := hid (show ¬ tfoot tb vn vo1 w.heap.size from fun hj => by have := XL.out w.heap.size (hj.imp id (fun h1 => h1.imp id (fun h2 => hm.own _ h2))); omega)
  have XS := hid (show w.heap.size < w1.heap.size from lB hx)
  have FN := hid (findNow hm.tb' hm.ti k hk)
  obtain ⟨⟨t0, t1, t2, t3, t4, t5, t6, t7⟩, tf⟩ := hm.tb'.cells
  clear hm hx M ST0
  go_wp2_with fail
  with_reducible refine FN.out.mono ?_
  rintro e' w2 ⟨i, b, rfl, hfr, hb2⟩
  have FR := hid hfr
  have T2 := hid (HM.out.tb'.below hb2)
  have HX2 := hid ((hb2.block w.heap.size XS.out).trans HX.out)
  have ST2 := hid (ST1.out.trans (.below hb2))
  have XS2 := hid (Nat.lt_of_lt_of_le XS.out hb2.size)
  clear t0 t1 t2 t3 t4 t5 t6 t7 tf hfr hb2 FN ST1 HX XS
  cases b with
  | true =>
    obtain ⟨p, hp, hp1, hpk⟩ := find_true FR.out
    have hil := (List.getElem?_eq_some_iff.1 hp).1
    have hii : (i : Int) < T1.now.length := by omega
    obtain ⟨g, cap, hvn, hcap⟩ := own_slice7 T2.out.now (by omega)
    subst hvn
    obtain ⟨⟨c0, c1, c2, c3, c4, c5, c6⟩, _⟩ := own_cells T2.out.now i p hp
    have Q := hid (get_now HM.out FR.out hp)
    obtain ⟨⟨t0, t1, t2, t3, t4, t5, t6, t7⟩, tf⟩ := T2.out.cells
    have x0 := qB (i := 0) HX2.out; have x1 := qB (i := 1) HX2.out; have x2 := qB (i := 2) HX2.out; have x3 := qB (i := 3) HX2.out; have x4 := qB (i := 4) HX2.out
    have y0 := zB (i := 0) HX2.out; have y1 := zB (i := 1) HX2.out; have y2 := zB (i := 2) HX2.out; have y3 := zB (i := 3) HX2.out; have y4 := zB (i := 4) HX2.out
    simp only [List.getElem?_toArray, List.getElem?_cons_zero, List.getElem?_cons_succ] at x0 x1 x2 x3 x4
    clear hp hp1 hpk
    go_wp2_with fail
    obtain ⟨w3, hw3⟩ : ∃ w3, set5 w2 w.heap.size p.en = w3 := ⟨_, rfl⟩
    obtain ⟨r0, r1, r2, r3, r4⟩ := set5_cells HX2.out p.en
    have GE := hid (get_end ST2.out T2.out XN.out Q.out)
    have hw3' := hw3
    unfold set5 at hw3'
    rw [hw3] at r0 r1 r2 r3 r4 GE
    rw [hw3']
    refine bodyPost_ret (v := .tuple #[entV p.en, .bool true]) (by simp [results, Tryz.results140, go_sem, r0, r1, r2, r3, r4]; try rfl) rfl ?_
    exact GE.out
  | false =>
    obtain ⟨⟨t0, t1, t2, t3, t4, t5, t6, t7⟩, tf⟩ := T2.out.cells
    by_cases h0 : T1.oldLen = 0
    · have Q := hid (get_miss HM.out FR.out (fun e => used_zero (HM.out.ti.cold.trans h0) k e))
      have x0 := qB (i := 0) HX2.out; have x1 := qB (i := 1) HX2.out; have x2 := qB (i := 2) HX2.out; have x3 := qB (i := 3) HX2.out; have x4 := qB (i := 4) HX2.out
      have y0 := zB (i := 0) HX2.out; have y1 := zB (i := 1) HX2.out; have y2 := zB (i := 2) HX2.out; have y3 := zB (i := 3) HX2.out; have y4 := zB (i := 4) HX2.out
      simp only [List.getElem?_toArray, List.getElem?_cons_zero, List.getElem?_cons_succ] at x0 x1 x2 x3 x4
      rw [h0] at t5
      go_wp2_with fail
      obtain ⟨w3, hw3⟩ : ∃ w3, set5 w2 w.heap.size ent0 = w3 := ⟨_, rfl⟩
      obtain ⟨r0, r1, r2, r3, r4⟩ := set5_cells HX2.out ent0
      have GE := hid (get_end ST2.out T2.out XN.out Q.out)
      have hw3' := hw3
      simp only [set5, ent0] at hw3'
      rw [hw3] at r0 r1 r2 r3 r4 GE
      rw [hw3']
      refine bodyPost_ret (v := .tuple #[entV ent0, .bool false]) (by simp [results, Tryz.results140, go_sem, r0, r1, r2, r3, r4]; try rfl) rfl ?_
      exact GE.out
    · have h0' : 0 < T1.oldLen := by omega
      have hb0 : ((T1.oldLen : Int) > 0) := by omega
      have FO := hid (findOld T2.out HM.out.ti k hk h0')
      go_wp2_with fail
      with_reducible refine FO.out.mono ?_
      rintro e' w3 ⟨i, b, rfl, hfr, hb3⟩
      have FR3 := hid hfr
      have T3 := hid (T2.out.below hb3)
      have HX3 := hid ((hb3.block w.heap.size XS2.out).trans HX2.out)
      have ST3 := hid (ST2.out.trans (.below hb3))
      clear t0 t1 t2 t3 t4 t5 t6 t7 tf hfr hb3 FO HX2
      cases b with
      | true =>
        obtain ⟨p, hp, hp1, hpk⟩ := find_true FR3.out
        have hil := (List.getElem?_eq_some_iff.1 hp).1
        have hii : (i : Int) < T1.old.length := by omega
        obtain ⟨g, cap, hvn, hcap⟩ := own_slice7 T3.out.old (by omega)
        subst hvn
        obtain ⟨⟨c0, c1, c2, c3, c4, c5, c6⟩, _⟩ := own_cells T3.out.old i p hp
        have Q := hid (get_old HM.out FR3.out hp)
        obtain ⟨⟨t0, t1, t2, t3, t4, t5, t6, t7⟩, tf⟩ := T3.out.cells
        have x0 := qB (i := 0) HX3.out; have x1 := qB (i := 1) HX3.out; have x2 := qB (i := 2) HX3.out; have x3 := qB (i := 3) HX3.out; have x4 := qB (i := 4) HX3.out
        have y0 := zB (i := 0) HX3.out; have y1 := zB (i := 1) HX3.out; have y2 := zB (i := 2) HX3.out; have y3 := zB (i := 3) HX3.out; have y4 := zB (i := 4) HX3.out
        simp only [List.getElem?_toArray, List.getElem?_cons_zero, List.getElem?_cons_succ] at x0 x1 x2 x3 x4
        clear hp hp1 hpk
        go_wp2_with fail
        obtain ⟨w4, hw4⟩ : ∃ w4, set5 w3 w.heap.size p.en = w4 := ⟨_, rfl⟩
        obtain ⟨r0, r1, r2, r3, r4⟩ := set5_cells HX3.out p.en
        have GE := hid (get_end ST3.out T3.out XN.out Q.out)
        have hw4' := hw4
        unfold set5 at hw4'
        rw [hw4] at r0 r1 r2 r3 r4 GE
        rw [hw4']
        refine bodyPost_ret (v := .tuple #[entV p.en, .bool true]) (by simp [results, Tryz.results140, go_sem, r0, r1, r2, r3, r4]; try rfl) rfl ?_
        exact GE.out
      | false =>
        have Q := hid (get_miss HM.out FR.out (fun e => find_none (HM.out.ti.old_find h0') FR3.out e))
        have x0 := qB (i := 0) HX3.out; have x1 := qB (i := 1) HX3.out; have x2 := qB (i := 2) HX3.out; have x3 := qB (i := 3) HX3.out; have x4 := qB (i := 4) HX3.out
        have y0 := zB (i := 0) HX3.out; have y1 := zB (i := 1) HX3.out; have y2 := zB (i := 2) HX3.out; have y3 := zB (i := 3) HX3.out; have y4 := zB (i := 4) HX3.out
        simp only [List.getElem?_toArray, List.getElem?_cons_zero, List.getElem?_cons_succ] at x0 x1 x2 x3 x4
        go_wp2_with fail
        obtain ⟨w4, hw4⟩ : ∃ w4, set5 w3 w.heap.size ent0 = w4 := ⟨_, rfl⟩
        obtain ⟨r0, r1, r2, r3, r4⟩ := set5_cells HX3.out ent0
        have GE := hid (get_end ST3.out T3.out XN.out Q.out)
        have hw4' := hw4
        simp only [set5, ent0] at hw4'
        rw [hw4] at r0 r1 r2 r3 r4 GE
        rw [hw4']
        refine bodyPost_ret (v := .tuple #[entV ent0, .bool false]) (by simp [results, Tryz.results140, go_sem, r0, r1, r2, r3, r4]; try rfl) rfl ?_
        exact GE.out
structure RemW (w wr : World) (g n cap b bx : Nat) (l : List Pl) : Prop where
  own : wr.ownsRow 0 310 7 (.slice (some ⟨g, 0, none⟩) n cap) n (placesC l)
  box : wr.heap[bx]? = some (.cells #[.int .i64 (b : Int), .slice (some ⟨g, 0, none⟩) n cap] 305 (0, 0))
  fr : Fr (fun j => j = g) w wr
  ne : bx ≠ g
structure RemL (home : ByteArray -> Nat) (l0 : List Pl) (i0 n ek : Nat) (l : List Pl) (i k : Nat) : Prop where
  ri : RemI home l0 i0 l i k
  ln : l.length = n
  st : ∀ p ∈ l, p.st = 0 \/ p.st = 1
  ks : ∀ p ∈ l, p.st = 1 -> p.key.size <= 9223372036854775807
  far : dist n i k <= dist n i ek
  emp : ∃ p, l[ek]? = some p /\ p.st = 0
theorem RemL.stay {home : ByteArray -> Nat} {l0 l : List Pl} {i0 n ek i k : Nat} {p : Pl} (h : RemL home l0 i0 n ek l i k) (hp : l[k]? = some p) (h1 : p.st = 1) (hd : dist n (home p.key) k < dist n i k) : RemL home l0 i0 n ek l i (nxt n k) /\ dist n (nxt n k) ek + 1 = dist n k ek := by
  have hk : k < n := by rw [<- h.ln]; exact h.ri.kl
  have hi : i < n := by rw [<- h.ln]; exact h.ri.il
  obtain ⟨q, hq, hq0⟩ := h.emp
  have he : ek < n := by rw [<- h.ln]; exact (List.getElem?_eq_some_iff.1 hq).1
  have hke : k ≠ ek := fun e => by subst e; rw [hp] at hq; cases hq; omega
  have d1 := dist_cases n i k
  have d2 := dist_cases n i ek
  have d3 := dist_cases n k ek
  have d4 := nxt_cases n k
  have d5 := dist_cases n (nxt n k) ek
  have d6 := dist_cases n i (nxt n k)
  have hf := h.far
  have hln := h.ln
  refine ⟨⟨?_, h.ln, h.st, h.ks, ?_, h.emp⟩, ?_⟩
  · have := rem_stay h.ri hp h1 (by rw [hln]; exact hd) (by rw [hln]; omega)
    rw [hln] at this; exact this
  · omega
  · omega
theorem RemL.move {home : ByteArray -> Nat} {l0 l : List Pl} {i0 n ek i k : Nat} {p : Pl} (h : RemL home l0 i0 n ek l i k) (hp : l[k]? = some p) (h1 : p.st = 1) (hh : home p.key < n) (hd : dist n i k <= dist n (home p.key) k) : RemL home l0 i0 n ek (l.set i p) k (nxt n k) /\ dist n (nxt n k) ek + 1 = dist n k ek := by
  have hk : k < n := by rw [<- h.ln]; exact h.ri.kl
  have hi : i < n := by rw [<- h.ln]; exact h.ri.il
  obtain ⟨q, hq, hq0⟩ := h.emp
  have he : ek < n := by rw [<- h.ln]; exact (List.getElem?_eq_some_iff.1 hq).1
  have hke : k ≠ ek := fun e => by subst e; rw [hp] at hq; cases hq; omega
  have hie : i ≠ ek := fun e => by
    subst e
    obtain ⟨r, hr, hr1⟩ := h.ri.hole
    rw [hr] at hq; cases hq; omega
  have d3 := dist_cases n k ek
  have d4 := nxt_cases n k
  have d5 := dist_cases n (nxt n k) ek
  have d6 := dist_cases n k (nxt n k)
  have hln := h.ln
  have hne : nxt n k ≠ k := by omega
  refine ⟨⟨?_, by rw [List.length_set]; exact h.ln, fun r hr => ?_, fun r hr => ?_, ?_, ⟨q, by rw [List.getElem?_set, if_neg hie]; exact hq, hq0⟩⟩, ?_⟩
  · have := rem_move h.ri hp h1 (by rw [hln]; exact hh) (by rw [hln]; exact hd) (by rw [hln]; exact hne)
    rw [hln] at this; exact this
  · rcases List.mem_or_eq_of_mem_set hr with h2 | h2
    · exact h.st r h2
    · rw [h2]; exact .inr h1
  · rcases List.mem_or_eq_of_mem_set hr with h2 | h2
    · exact h.ks r h2
    · rw [h2]; exact h.ks p (List.mem_of_getElem? hp)
  · omega
  · omega
theorem RemL.start {home : ByteArray -> Nat} {l : List Pl} {i n ek : Nat} {p : Pl} (hI : Inv home l) (hln : l.length = n) (hst : ∀ p ∈ l, p.st = 0 \/ p.st = 1) (hks : ∀ p ∈ l, p.st = 1 -> p.key.size <= 9223372036854775807) (hp : l[i]? = some p) (h1 : p.st = 1) (he : ∃ q, l[ek]? = some q /\ q.st = 0) : RemL home l i n ek l i (nxt n i) := by
  obtain ⟨q, hq, hq0⟩ := he
  have hi : i < n := by rw [<- hln]; exact (List.getElem?_eq_some_iff.1 hp).1
  have hek : ek < n := by rw [<- hln]; exact (List.getElem?_eq_some_iff.1 hq).1
  have hne : i ≠ ek := fun e => by subst e; rw [hp] at hq; cases hq; omega
  have d1 := dist_cases n i ek
  have d2 := nxt_cases n i
  have d3 := dist_cases n i (nxt n i)
  refine ⟨?_, hln, hst, hks, by omega, q, hq, hq0⟩
  have := rem_start hI hp h1 ⟨ek, q, hq, hq0⟩
  rw [hln] at this; exact this
theorem RemW.below {w wr w' : World} {g n cap b bx : Nat} {l : List Pl} (h : RemW w wr g n cap b bx l) (hb : Below wr.heap.size wr w') : RemW w w' g n cap b bx l := by
  have hf : Fr (fun _ => False) wr w' := .of_below hb
  exact ⟨own_fr h.own hf (fun _ _ f => f), (hb.block bx (lB h.box)).trans h.box, h.fr.trans hf (fun _ f => f.elim), h.ne⟩
theorem fr_set7 (w : World) (g i : Nat) (p : Pl) : Fr (fun j => j = g) w (set7 w g i p) := by
  unfold set7
  exact ((((((fr_set _ _ _ _).trans (fr_set _ _ _ _) (fun j hj => .inl hj)).trans (fr_set _ _ _ _) (fun j hj => .inl hj)).trans (fr_set _ _ _ _) (fun j hj => .inl hj)).trans (fr_set _ _ _ _) (fun j hj => .inl hj)).trans (fr_set _ _ _ _) (fun j hj => .inl hj)).trans (fr_set _ _ _ _) (fun j hj => .inl hj)
theorem RemW.set {w wr : World} {g n cap b bx : Nat} {l : List Pl} (h : RemW w wr g n cap b bx l) (i : Nat) (p : Pl) : RemW w (set7 wr g i p) g n cap b bx (l.set i p) :=
  ⟨(own_set7 h.own i p).1, ((fr_set7 wr g i p).block bx (lB h.box) h.ne).trans h.box, h.fr.trans (fr_set7 wr g i p) (fun _ hj => .inl hj), h.ne⟩
def RemE (w : World) (g n cap b : Nat) (l : List Pl) (key : ByteArray) (e : Ending) (w' : World) : Prop :=
  e = .returned (.tuple #[]) /\ ∃ l', w'.ownsRow 0 310 7 (.slice (some ⟨g, 0, none⟩) n cap) n (placesC l') /\ l'.length = n /\ Inv (homeN b) l' /\ usedN l' + 1 = usedN l /\ (∀ p ∈ l', p.st = 0 \/ p.st = 1) /\ (∀ ke e, HasK l' ke e ↔ HasK l ke e /\ ke ≠ key) /\ Fr (fun j => j = g) w w'
theorem rem_fin {w wr : World} {g n cap b bx i0 i k ek : Nat} {l0 l : List Pl} {p p0 : Pl} (h : RemL (homeN b) l0 i0 n ek l i k) (hw : RemW w (set7 wr g i pEmpty) g n cap b bx (l.set i pEmpty)) (hI : Inv (homeN b) l0) (hp : l[k]? = some p) (h0 : p.st = 0) (hp0 : l0[i0]? = some p0) (hp01 : p0.st = 1) (hln : l0.length = n) :
    RemE w g n cap b l0 p0.key (.returned (.tuple #[])) (set7 wr g i pEmpty) := by
  obtain ⟨r1, r2, r3, r4⟩ := rem_end h.ri hI hp h0 hp0 hp01
  refine ⟨rfl, _, hw.own, by rw [List.length_set]; exact h.ln, r1, r2, fun q hq => ?_, r4, hw.fr⟩
  rcases List.mem_or_eq_of_mem_set hq with h2 | h2
  · exact h.st q h2
  · rw [h2]; exact .inl rfl
theorem remove28 (g n b cap i0 : Nat) (l : List Pl) (p0 : Pl) (w : World) (hn : n = 2 ^ b) (hb1 : 1 <= b) (hb : b <= 30) (hln : l.length = n) (hown : w.ownsRow 0 310 7 (.slice (some ⟨g, 0, none⟩) n cap) n (placesC l)) (hI : Inv (homeN b) l)
    (hst : ∀ p ∈ l, p.st = 0 \/ p.st = 1) (hks : ∀ p ∈ l, p.st = 1 -> p.key.size <= 9223372036854775807) (hp0 : l[i0]? = some p0) (hp1 : p0.st = 1) (he : ∃ (i : Nat) (p : Pl), l[i]? = some p /\ p.st = 0) :
    Calls prog 206 #[.agg #[.int .i64 (b : Int), .slice (some ⟨g, 0, none⟩) n cap], .int .i64 (i0 : Int)] w (RemE w g n cap b l p0.key) := by
  obtain ⟨ek, q, hq, hq0⟩ := he
  have hle := pow_le30 hb
  rw [<- hn] at hle
  have hi0 : i0 < n := by rw [<- hln]; exact (List.getElem?_eq_some_iff.1 hp0).1
  have hek : ek < n := by rw [<- hln]; exact (List.getElem?_eq_some_iff.1 hq).1
  have hgl := (hown.lt g rfl).2
  have L0 := hid (RemL.start (ek := ek) hI hln hst hks hp0 hp1 ⟨q, hq, hq0⟩)
  have W0 := hid (show RemW w (w.alloc (.cells #[.int .i64 (b : Int), .slice (some ⟨g, 0, none⟩) n cap] 305)) g n cap b w.heap.size l from
    ⟨hown.alloc _, by show (w.heap.push _)[w.heap.size]? = _; simp, (Fr.refl _ w).alloc _, by omega⟩)
  have HO := hid (fun (k : ByteArray) (hk : k.size <= 9223372036854775807) W => home33 b (.slice (some ⟨g, 0, none⟩) n cap) k W hk)
  have AF := hid (fun i (hi : i < n) W => after34 n b i cap (b : Int) (some ⟨g, 0, none⟩) W hn hb hi)
  have AD := hid (fun h k (h1 : h < n) (h2 : k < n) => and_dist n b h k hn hb h1 h2)
  have HH := hid (fun (k : ByteArray) => homeN_lt k b hb1 hb)
  rw [<- hn] at HH
  have HI := hid hI; have HP := hid hp0; have HP1 := hid hp1; have HLN := hid hln
  have AF0 := hid (AF.out i0 hi0)
  have D0 := hid (dist_lt (nxt_lt hi0) hek)
  clear hn hown hI hst hks hp0 hp1 hq hq0 hln hgl
  go_enter Tryz.func206, Tryz.ntmps206
  go_wp2_with fail
  with_reducible refine (AF0.out _).mono ?_
  rintro e w1 ⟨rfl, hb1'⟩
  have W1 := hid (W0.out.below hb1')
  clear hb1' AF0 W0
  go_wp2_with fail
  go_loopg [1, 4, 5] (dist n (nxt n i0) ek) (fun gk iv kv _ wr => ∃ i k l', iv = .int .i64 ((i : Nat) : Int) /\ kv = .int .i64 ((k : Nat) : Int) /\ dist n k ek = gk /\ RemL (homeN b) l i0 n ek l' i k /\ RemW w wr g n cap b w.heap.size l')
  case atStart => exact ⟨i0, nxt n i0, l, rfl, rfl, rfl, L0.out, W1.out⟩
  case round =>
    obtain ⟨i, k, l', rfl, rfl, hgk, hl, hw⟩ := hrel
    clear W1 L0
    have GK := hid hgk
    have HL := hid hl
    have HW := hid hw
    have hkn : k < n := by have := hl.ri.kl; rw [hl.ln] at this; exact this
    have hin : i < n := by have := hl.ri.il; rw [hl.ln] at this; exact this
    have hkI : (k : Int) < n := by omega
    have hiI : (i : Int) < n := by omega
    obtain ⟨p, hp⟩ : ∃ p, l'[k]? = some p := ⟨_, List.getElem?_eq_getElem hl.ri.kl⟩
    obtain ⟨ph, hph, hph1⟩ := hl.ri.hole
    obtain ⟨⟨c0, c1, c2, c3, c4, c5, c6⟩, _⟩ := own_cells hw.own k p hp
    obtain ⟨⟨i0', i1, i2, i3, i4, i5, i6⟩, ⟨f0, f1, f2, f3, f4, f5, f6⟩⟩ := own_cells hw.own i ph hph
    have b0 := qB (i := 0) hw.box; have b1 := qB (i := 1) hw.box
    simp only [List.getElem?_toArray, List.getElem?_cons_zero, List.getElem?_cons_succ] at b0 b1
    have HPk := hid hp
    have hst := hl.st p (List.mem_of_getElem? hp)
    clear hgk hl hw hph hph1
    by_cases h0 : p.st = 0
    · have hs0 : ((p.st : Int) == 1) = false := by simp [h0]
      have FIN := hid (fun wr' (h : set7 wr g i pEmpty = wr') => h ▸ rem_fin HL.out (HW.out.set i pEmpty) HI.out HPk.out h0 HP.out HP1.out HLN.out)
      clear h0 hst hp
      go_wp2_with fail
      obtain ⟨w4, hw4⟩ : ∃ w4, (((((((wr.setCell ⟨g, i * 7, none⟩ (.int .i64 0)).setCell ⟨g, i * 7 + 1, none⟩ (.string ⟨#[]⟩)).setCell ⟨g, i * 7 + 2, none⟩ (.int .i64 0)).setCell ⟨g, i * 7 + 3, none⟩ (.int .i64 0)).setCell ⟨g, i * 7 + 4, none⟩ (.int .i64 0)).setCell ⟨g, i * 7 + 5, none⟩ (.int .i64 0)).setCell ⟨g, i * 7 + 6, none⟩ (.bool false)) = w4 := ⟨_, rfl⟩
      have hw4' : set7 wr g i pEmpty = w4 := hw4
      rw [hw4]
      go_end0
      exact FIN.out _ hw4'
    · have h1 : p.st = 1 := by omega
      have hs0 : ((p.st : Int) == 1) = true := by simp [h1]
      have hks := HL.out.ks p (List.mem_of_getElem? hp) h1
      have HOM := hid (HO.out p.key hks)
      obtain ⟨hhl, hhe⟩ := HH.out p.key
      have HEQ := hid hhe
      rw [hhe] at HOM
      generalize hhm : homeN b p.key = hm at *
      have DA := hid (AD.out hm k hhl hkn)
      have DB := hid (AD.out i k hin hkn)
      have hgw := (HW.out.own.lt g rfl).2
      have hbw := lB HW.out.box
      have HHM := hid hhm
      clear h0 hst hp hhe hhm
      go_upto_region 4 with fail
      refine wp_region_ext wr.heap.size (by kernel_rfl) (by kernel_rfl) ?_
      have hx := fun (x : Ext wr.heap.size wr) b o h => Ext.cell x b o h
      repeat (go_big_quiet_step (first | (go_at_call 274; with_reducible exact Calls.ext (Nat.le_refl _) (HOM.out _)) | (with_reducible exact rfl)))
      refine wpQuiet_nil ?_
      rintro w3 ⟨⟨_, hb3⟩, rfl⟩
      have HW3 := hid (HW.out.below hb3)
      rw [DA.out]
      obtain ⟨dh, hdh⟩ : ∃ d, dist n hm k = d := ⟨_, rfl⟩
      obtain ⟨di, hdi⟩ : ∃ d, dist n i k = d := ⟨_, rfl⟩
      have HDH := hid hdh
      have HDI := hid hdi
      rw [hdh] at DA
      rw [hdi] at DB
      rw [hdh]
      have AFT := hid (AF.out k hkn)
      clear hx c0 c1 c2 c3 c4 c5 c6 i0' i1 i2 i3 i4 i5 i6 f0 f1 f2 f3 f4 f5 f6 b0 b1 hdh hdi hks hb3 hgw hbw
      obtain ⟨⟨c0, c1, c2, c3, c4, c5, c6⟩, _⟩ := own_cells HW3.out.own k p HPk.out
      obtain ⟨ph, hph, _⟩ := HL.out.ri.hole
      obtain ⟨⟨i0', i1, i2, i3, i4, i5, i6⟩, ⟨f0, f1, f2, f3, f4, f5, f6⟩⟩ := own_cells HW3.out.own i ph hph
      have b0 := qB (i := 0) HW3.out.box; have b1 := qB (i := 1) HW3.out.box
      simp only [List.getElem?_toArray, List.getElem?_cons_zero, List.getElem?_cons_succ] at b0 b1
      clear hph
      by_cases hd : di <= dh
      · have hdb : decide ((dh : Int) ≥ bits .and .i64 ((k : Int) - (i : Int)) ((n : Int) - 1)) = true := by rw [DB.out, decide_eq_true_iff]; omega
        obtain ⟨L2, M2⟩ := HL.out.move HPk.out h1 (by rw [HHM.out]; exact hhl) (by rw [HHM.out, HDH.out, HDI.out]; exact hd)
        have L2H := hid L2
        have M2H := hid M2
        have HW4 := hid (fun wr' (h : set7 w3 g i p = wr') => show RemW w wr'.drew g n cap b w.heap.size (l'.set i p) from (h ▸ HW3.out.set i p : RemW w wr' g n cap b w.heap.size (l'.set i p)).below (Below.refl _ _).drew)
        clear hd L2 M2
        have hpst : (p.st : Int) = 1 := by omega
        go_wp2_with fail
        go_region
        obtain ⟨w4, hw4⟩ : ∃ w4, (((((((w3.setCell ⟨g, i * 7, none⟩ (.int .i64 1)).setCell ⟨g, i * 7 + 1, none⟩ (.string p.key)).setCell ⟨g, i * 7 + 2, none⟩ (.int .i64 p.en.seq)).setCell ⟨g, i * 7 + 3, none⟩ (.int .i64 p.en.off)).setCell ⟨g, i * 7 + 4, none⟩ (.int .i64 p.en.len)).setCell ⟨g, i * 7 + 5, none⟩ (.int .i64 p.en.exp)).setCell ⟨g, i * 7 + 6, none⟩ (.bool p.en.hit)) = w4 := ⟨_, rfl⟩
        have hw4' : set7 w3 g i p = w4 := by unfold set7; rw [h1]; exact hw4
        rw [hw4]
        have W4 := hid (HW4.out w4 hw4')
        generalize w4.drew = w5 at *
        clear hw4 hw4' HW4 c0 c1 c2 c3 c4 c5 c6 i0' i1 i2 i3 i4 i5 i6 f0 f1 f2 f3 f4 f5 f6 b0 b1
        have b0 := qB (i := 0) W4.out.box; have b1 := qB (i := 1) W4.out.box
        simp only [List.getElem?_toArray, List.getElem?_cons_zero, List.getElem?_cons_succ] at b0 b1
        go_wp2_with fail
        with_reducible refine (AFT.out _).mono ?_
        rintro e w6 ⟨rfl, hb6⟩
        have W6 := hid (W4.out.below hb6)
        clear b0 b1 hb6
        go_wp2_with fail
        go_roundg (dist n (nxt n k) ek)
        case measure => have := GK.out; have := M2H.out; omega
        case rel => exact ⟨k, nxt n k, _, rfl, rfl, rfl, L2H.out, W6.out⟩
      · have hdb : decide ((dh : Int) ≥ bits .and .i64 ((k : Int) - (i : Int)) ((n : Int) - 1)) = false := by rw [DB.out, decide_eq_false_iff_not]; omega
        obtain ⟨L2, M2⟩ := HL.out.stay HPk.out h1 (by rw [HHM.out, HDH.out, HDI.out]; omega)
        have L2H := hid L2
        have M2H := hid M2
        clear hd L2 M2
        go_wp2_with fail
        with_reducible refine (AFT.out _).mono ?_
        rintro e w6 ⟨rfl, hb6⟩
        have W6 := hid (HW3.out.below hb6)
        clear b0 b1 hb6
        go_wp2_with fail
        go_roundg (dist n (nxt n k) ek)
        case measure => have := GK.out; have := M2H.out; omega
        case rel => exact ⟨i, nxt n k, _, rfl, rfl, rfl, L2H.out, W6.out⟩
structure DelI (T T' : Tab) (k : ByteArray) (b : Bool) : Prop where
  ti : TI T'
  has : ∀ k' e', Has T' k' e' ↔ k' ≠ k /\ Has T k' e'
  tot : T'.tot + (if b = true then 1 else 0) = T.tot
  hit : b = true ↔ ∃ e, Has T k e
  w8 : T'.work <= 8
def DelE (w : World) (tb : Nat) (vn vo : Value) (T : Tab) (k : ByteArray) (e' : Ending) (w' : World) : Prop :=
  ∃ b vo' T', e' = .returned (.bool b) /\ Tb w' tb vn vo' T' /\ St w w' tb vn vo vn vo' /\ DelI T T' k b
def Tab.remd (T : Tab) (l : List Pl) : Tab := { T with now := l, nowLen := T.nowLen - 1 }
theorem del_old {w w1 w2 w3 : World} {tb : Nat} {vn vo vo' : Value} {T T1 T2 : Tab} {k : ByteArray} (hm : MoveQ w w1 tb vn vo vo' T T1) (hf : ForgQ w2 w3 tb vn vo' T1 T2 k true) : DelI T T2 k true := by
  obtain ⟨e, he⟩ := hf.hit.1 rfl
  have o1 := hf.ol; have o2 := hf.nl; have o3 := hm.tot; have o4 := hf.wk; have o5 := hm.w8
  simp only [if_true] at o1
  refine ⟨hf.ti, fun k' e' => ?_, by simp only [if_true]; unfold Tab.tot; omega, ⟨fun _ => ⟨e, (hm.has _ _).1 (.inr he)⟩, fun _ => rfl⟩, by omega⟩
  rw [<- hm.has]
  unfold Has
  rw [hf.now, hf.old]
  constructor
  · rintro (h | ⟨h1, h2⟩)
    · exact ⟨fun e0 => by subst e0; exact hm.ti.disj _ _ _ h he, .inl h⟩
    · exact ⟨h1, .inr h2⟩
  · rintro ⟨h1, h2 | h2⟩
    · exact .inl h2
    · exact .inr ⟨h1, h2⟩
theorem del_none {w w1 w2 w3 : World} {tb i : Nat} {vn vo vo' : Value} {T T1 T2 : Tab} {k : ByteArray} (hm : MoveQ w w1 tb vn vo vo' T T1) (hf : ForgQ w2 w3 tb vn vo' T1 T2 k false) (hp : FindR T2.now (homeN T2.nb k) k i false) : DelI T T2 k false := by
  have o1 := hf.ol; have o2 := hf.nl; have o3 := hm.tot; have o4 := hf.wk; have o5 := hm.w8
  simp only [Bool.false_eq_true, if_false] at o1
  have hno : ∀ e, ¬ Has T k e := fun e hh => by
    rcases (hm.has k e).2 hh with h | h
    · exact find_none hf.ti.inow hp e (by rw [hf.now]; exact h)
    · exact absurd (hf.hit.2 ⟨e, h⟩) (by simp)
  refine ⟨hf.ti, fun k' e' => ?_, by simp only [Bool.false_eq_true, if_false]; unfold Tab.tot; omega, ⟨(fun h => by cases h), fun ⟨e, he⟩ => absurd he (hno e)⟩, by omega⟩
  rw [<- hm.has]
  unfold Has
  rw [hf.now, hf.old]
  constructor
  · rintro (h | ⟨h1, h2⟩)
    · exact ⟨fun e0 => by subst e0; exact hno _ ((hm.has _ _).1 (.inl h)), .inl h⟩
    · exact ⟨h1, .inr h2⟩
  · rintro ⟨h1, h2 | h2⟩
    · exact .inl h2
    · exact .inr ⟨h1, h2⟩
theorem del_now {w w1 w2 w3 : World} {tb i : Nat} {vn vo vo' : Value} {T T1 T2 : Tab} {k : ByteArray} {p : Pl} {l' : List Pl} (hm : MoveQ w w1 tb vn vo vo' T T1) (hf : ForgQ w2 w3 tb vn vo' T1 T2 k false) (hp : T2.now[i]? = some p) (hp1 : p.st = 1) (hpk : p.key = k)
    (hl : l'.length = T2.now.length) (hI : Inv (homeN T2.nb) l') (hu : usedN l' + 1 = usedN T2.now) (hst : ∀ p ∈ l', p.st = 0 \/ p.st = 1) (hh : ∀ ke e, HasK l' ke e ↔ HasK T2.now ke e /\ ke ≠ p.key) : DelI T (T2.remd l') k true /\ T2.nowLen ≠ 0 := by
  have o1 := hf.ol; have o2 := hf.nl; have o3 := hm.tot; have o4 := hf.wk; have o5 := hm.w8
  have hc := hf.ti.cnow; have hcap := hf.ti.cap; have hsl := hf.ti.slack
  simp only [Bool.false_eq_true, if_false] at o1
  subst hpk
  have e1 : (T2.remd l').nowLen = T2.nowLen - 1 := rfl
  have e2 : (T2.remd l').oldLen = T2.oldLen := rfl
  have e3 : (T2.remd l').nb = T2.nb := rfl
  have hk2 : HasK T2.now p.key p.en := ⟨i, p, hp, hp1, rfl, rfl⟩
  have hk1 : HasK T1.now p.key p.en := by rw [<- hf.now]; exact hk2
  refine ⟨⟨⟨hf.ti.n3, hf.ti.n30, hl.trans hf.ti.nlen, hI, hst, by show usedN l' = _; omega, hf.ti.iold, hf.ti.cold, hf.ti.at0, fun k' e e' h1 h2 => hf.ti.disj k' e e' ((hh k' e).1 h1).1 h2, by rw [e1, e2, e3]; omega, by rw [e1, e2, e3]; omega, fun k' e h => hf.ti.ks k' e (h.imp (fun h => ((hh k' e).1 h).1) id)⟩, fun k' e' => ?_, by simp only [if_true]; unfold Tab.tot; rw [e1, e2]; omega, ⟨fun _ => ⟨p.en, (hm.has _ _).1 (.inl hk1)⟩, fun _ => rfl⟩, by show T2.work <= 8; omega⟩, by omega⟩
  rw [<- hm.has]
  unfold Has
  show HasK l' k' e' \/ HasK T2.old k' e' ↔ _
  rw [hh, hf.now, hf.old]
  constructor
  · rintro (⟨h1, h2⟩ | ⟨h1, h2⟩)
    · exact ⟨h2, .inl h1⟩
    · exact ⟨h1, .inr h2⟩
  · rintro ⟨h1, h2 | h2⟩
    · exact .inl ⟨h2, h1⟩
    · exact .inr ⟨h1, h2⟩
theorem Tb.newNow {w w' : World} {tb g cap : Nat} {vo : Value} {T : Tab} {l' : List Pl} (h : Tb w tb (.slice (some ⟨g, 0, none⟩) T.now.length cap) vo T) (hl : l'.length = T.now.length) (ho : w'.ownsRow 0 310 7 (.slice (some ⟨g, 0, none⟩) T.now.length cap) T.now.length (placesC l')) (hf : Fr (fun j => j = g) w w') :
    Tb w' tb (.slice (some ⟨g, 0, none⟩) T.now.length cap) vo { T with now := l' } := by
  have hg : (Value.slice (some ⟨g, 0, none⟩) T.now.length cap).ownBlock = some g := rfl
  refine ⟨(hf.block tb (lB h.blk) (fun e => h.nn (by rw [hg, e]))).trans h.blk, ?_, own_fr h.old hf (fun j hj e => h.ne g hg (by rw [hj, e])), h.ne, h.nn, h.no⟩
  show World.ownsRow _ _ _ _ _ l'.length _
  rw [hl]; exact ho
theorem del13 (tb : Nat) (vn vo : Value) (T : Tab) (k : ByteArray) (w : World) (h : Tb w tb vn vo T) (hI : TI T) (hk : k.size <= 9223372036854775807) :
    Calls prog 133 #[.pointer (some ⟨tb, 0, none⟩), .string k] w (DelE w tb vn vo T k) := by
  have M := hid (move23 tb vn vo T _ h hI)
  clear h hI
  go_enter Tryz.func133, Tryz.ntmps133
  go_wp2_with fail
  with_reducible refine M.out.mono ?_
  rintro e' w1 ⟨rfl, vo1, T1, hm⟩
  have HM := hid hm
  have FG := hid (forget24 tb vn vo1 T1 k w1 hk hm.tb' hm.ti)
  have ST1 := hid hm.st
  clear hm M
  go_wp2_with fail
  with_reducible refine FG.out.mono ?_
  rintro e' w2 ⟨b, T2, rfl, hf⟩
  have HF := hid hf
  have ST2 := hid (ST1.out.trans hf.st)
  clear FG ST1
  cases b with
  | true =>
    have Q := hid (del_old HM.out hf)
    clear hf
    go_wp2_with fail
    go_ret
    exact ⟨true, _, _, rfl, HF.out.tb', ST2.out, Q.out⟩
  | false =>
    have FN := hid (findNow hf.tb' hf.ti k hk)
    obtain ⟨⟨t0, t1, t2, t3, t4, t5, t6, t7⟩, tf⟩ := hf.tb'.cells
    clear hf
    go_wp2_with fail
    with_reducible refine FN.out.mono ?_
    rintro e' w3 ⟨i, b2, rfl, hfr, hb3⟩
    have FR := hid hfr
    have T3 := hid (HF.out.tb'.below hb3)
    have ST3 := hid (ST2.out.trans (.below hb3))
    clear t0 t1 t2 t3 t4 t5 t6 t7 tf hfr hb3 FN ST2
    cases b2 with
    | false =>
      have Q := hid (del_none HM.out HF.out FR.out)
      go_wp2_with fail
      go_ret
      exact ⟨false, _, _, rfl, T3.out, ST3.out, Q.out⟩
    | true =>
      obtain ⟨p, hp, hp1, hpk⟩ := find_true FR.out
      obtain ⟨g, cap, hvn, hcap⟩ := own_slice7 T3.out.now (by have := (List.getElem?_eq_some_iff.1 hp).1; omega)
      subst hvn
      have RM := hid (remove28 g T2.now.length T2.nb cap i T2.now p w3 HF.out.ti.nlen (by have := HF.out.ti.n3; omega) HF.out.ti.n30 rfl T3.out.now HF.out.ti.inow HF.out.ti.snow (fun q hq h1 => by
        obtain ⟨j, hj, e⟩ := List.getElem_of_mem hq
        exact HF.out.ti.ks q.key q.en (.inl ⟨j, q, by rw [List.getElem?_eq_getElem hj, e], h1, rfl, rfl⟩)) hp hp1 HF.out.ti.emp)
      have HP := hid hp; have HP1 := hid hp1; have HPK := hid hpk
      obtain ⟨⟨t0, t1, t2, t3, t4, t5, t6, t7⟩, tf⟩ := T3.out.cells
      have LE := HF.out.ti.len_le
      clear hp hp1 hpk
      go_wp2_with fail
      with_reducible refine RM.out.mono ?_
      rintro e' w4 ⟨rfl, l', hown, hl', hI', hu, hst, hh, hf4⟩
      obtain ⟨Q, hz⟩ := del_now HM.out HF.out HP.out HP1.out HPK.out hl' hI' hu hst hh
      have QH := hid Q
      have T4 := hid (T3.out.newNow hl' hown hf4)
      have F4 := hid hf4
      have T5 := hid (T4.out.field 6 (.int .i64 ((T2.nowLen : Int) - 1)) (T2.remd l') (by unfold tabC; show _ = tabC (T2.remd l') _ vo1; unfold tabC Tab.remd; rw [show ((T2.nowLen - 1 : Nat) : Int) = (T2.nowLen : Int) - 1 from by omega]; rfl) rfl rfl)
      clear t0 t1 t2 t3 t4 t5 t6 t7 tf hown hl' hI' hu hst hh hf4 Q RM
      obtain ⟨⟨_, _, _, _, _, _, t6, _⟩, tf⟩ := T4.out.cells
      have t6' : w4.cell? ⟨tb, 6, none⟩ = some (.int .i64 (T2.nowLen : Int)) := t6
      clear t6
      go_wp2_with fail
      go_ret
      refine ⟨true, _, _, rfl, T5.out.1, ST3.out.trans ⟨fun j hj => .inl hj, ?_⟩, QH.out⟩
      exact (F4.out.mono (T := tfoot tb (.slice (some ⟨g, 0, none⟩) T2.now.length cap) vo1) (fun j _ e => .inr (.inl (by rw [e]; rfl)))).trans T5.out.2 (fun j hj => .inl (.inl hj))
def Tob (w0 w : World) (tb : Nat) (T : Tab) : Prop := ∃ vn vo, Tb w tb vn vo T /\ TI T /\ (∀ j, tfoot tb vn vo j -> w0.heap.size <= j) /\ Below w0.heap.size w0 w
theorem Tob.bel {w0 w : World} {tb : Nat} {T : Tab} (h : Tob w0 w tb T) : Below w0.heap.size w0 w := by obtain ⟨_, _, _, _, _, h⟩ := h; exact h
theorem new_ob (w : World) : Calls prog 131 #[] w fun e w' => ∃ tb T, e = .returned (.pointer (some ⟨tb, 0, none⟩)) /\ Tob w w' tb T /\ T.tot = 0 /\ ∀ k e, ¬ Has T k e := by
  refine (new8 w).mono ?_
  rintro e w' ⟨tb, vn, T, rfl, t, ti, _, h1, h2, _, h4, h5, h6⟩
  exact ⟨tb, T, rfl, ⟨vn, _, t, ti, h6, ⟨h5.os, h5.tape, h5.output, h5.size, fun k hk => h5.block k hk (fun f => f)⟩⟩, by unfold Tab.tot; omega, h4⟩
end Go.Proofs.YtbikkioipamlmaaGreatDoor.T16
namespace Go.Proofs.YtbikkioipamlmaaGreatDoor.T16
structure Rc where
  seq : Int
  off : Int
  len : Int
  kind : Int
  key : ByteArray
  exp : Int
def Rc.ent (r : Rc) : Ent := ⟨r.seq, r.off, r.len, r.exp, false⟩
def stepF (k : ByteArray) (s : Option Ent) (r : Rc) : Option Ent :=
  if r.kind = 1 then (if r.key = k then some r.ent else s) else if r.kind = 2 then (if r.key = k then none else s) else if r.kind = 3 then none else s
def foldF (k : ByteArray) (s : Option Ent) (l : List Rc) : Option Ent := l.foldl (stepF k) s
def after (l : List Rc) (k : ByteArray) : Option Ent := foldF k none l
theorem foldF_append (k : ByteArray) (s : Option Ent) (l l' : List Rc) : foldF k s (l ++ l') = foldF k (foldF k s l) l' := by unfold foldF; rw [List.foldl_append]
theorem after_snoc (l : List Rc) (r : Rc) (k : ByteArray) : after (l ++ [r]) k = stepF k (after l k) r := by unfold after; rw [foldF_append]; rfl
def liveE (now : Int) (e : Ent) : Bool := decide (e.exp = 0) || decide (now < e.exp)
structure MapR (l : List Rc) (now : Int) (q : List Pr) : Prop where
  asc : Asc q
  mem : ∀ x : Pr, x ∈ q ↔ after l x.key = some x.en /\ liveE now x.en = true
def LikeR (T : Tab) (l : List Rc) : Prop := ∀ k e, Has T k e ↔ after l k = some e
theorem Asc.filter {q : List Pr} (h : Asc q) (p : Pr -> Bool) : Asc (q.filter p) := List.Pairwise.filter p h
theorem mapR_of {T : Tab} {l : List Rc} {now : Int} {q : List Pr} (h : LikeR T l) (ha : Asc q) (hp : q.Perm (prs T)) : MapR l now (q.filter (fun x => liveE now x.en)) := by
  refine ⟨ha.filter _, fun x => ?_⟩
  rw [List.mem_filter, hp.mem_iff, mem_prs, h]
theorem likeR_step1 {T T' : Tab} {l : List Rc} {r : Rc} (h : LikeR T l) (hk : r.kind = 1) (s : SetI T T' r.key r.ent) : LikeR T' (l ++ [r]) := by
  intro k e
  rw [after_snoc, s.has]
  unfold stepF
  rw [if_pos hk]
  by_cases hkk : r.key = k
  · subst hkk
    rw [if_pos rfl]
    constructor
    · rintro (⟨_, h2⟩ | ⟨h1, _⟩)
      · rw [h2]
      · exact absurd rfl h1
    · intro h1; injection h1 with h1; exact .inl ⟨rfl, h1.symm⟩
  · rw [if_neg hkk, <- h]
    constructor
    · rintro (⟨h1, _⟩ | ⟨_, h2⟩)
      · exact absurd h1.symm hkk
      · exact h2
    · intro h2; exact .inr ⟨fun e => hkk e.symm, h2⟩
theorem likeR_step2 {T T' : Tab} {l : List Rc} {r : Rc} {b : Bool} (h : LikeR T l) (hk : r.kind = 2) (s : DelI T T' r.key b) : LikeR T' (l ++ [r]) := by
  intro k e
  rw [after_snoc, s.has, h]
  unfold stepF
  rw [if_neg (by omega), if_pos hk]
  by_cases hkk : r.key = k
  · rw [if_pos hkk]
    simp [hkk]
  · rw [if_neg hkk]
    exact ⟨fun h => h.2, fun h => ⟨fun e => hkk e.symm, h⟩⟩
theorem likeR_step3 {T' : Tab} {l : List Rc} {r : Rc} (hk : r.kind = 3) (hno : ∀ k e, ¬ Has T' k e) : LikeR T' (l ++ [r]) := by
  intro k e
  rw [after_snoc]
  unfold stepF
  rw [if_neg (by omega), if_neg (by omega), if_pos hk]
  simp [hno]
theorem likeR_step0 {T : Tab} {l : List Rc} {r : Rc} (h : LikeR T l) (h1 : r.kind ≠ 1) (h2 : r.kind ≠ 2) (h3 : r.kind ≠ 3) : LikeR T (l ++ [r]) := by
  intro k e
  rw [after_snoc, h]
  unfold stepF
  rw [if_neg h1, if_neg h2, if_neg h3]
theorem likeR_nil {T : Tab} (hno : ∀ k e, ¬ Has T k e) : LikeR T [] := fun k e => ⟨fun h => absurd h (hno k e), fun h => by cases h⟩
end Go.Proofs.YtbikkioipamlmaaGreatDoor.T16
namespace Go.Proofs.YtbikkioipamlmaaGreatDoor.T16
open Go.Maps Go.RowKit
def prC (p : Pr) : List Value := .string p.key :: entC p.en
def pairsC : List Pr -> List Value
  | [] => []
  | p :: l => prC p ++ pairsC l
theorem prC_len (p : Pr) : (prC p).length = 6 := rfl
theorem pairsC_len (l : List Pr) : (pairsC l).length = l.length * 6 := by
  induction l with
  | nil => rfl
  | cons p l ih => simp only [pairsC, List.length_append, prC_len, ih, List.length_cons]; omega
theorem pairsC_append (l l' : List Pr) : pairsC (l ++ l') = pairsC l ++ pairsC l' := by
  induction l with
  | nil => rfl
  | cons p l ih => simp only [List.cons_append, pairsC, ih, List.append_assoc]
theorem pairsC_one (p : Pr) : pairsC [p] = prC p := by simp [pairsC]
theorem pairsC_at (l : List Pr) (i : Nat) (p : Pr) (h : l[i]? = some p) (j : Nat) (hj : j < 6) : (pairsC l)[i * 6 + j]? = (prC p)[j]? := by
  induction l generalizing i with
  | nil => simp at h
  | cons q l ih =>
    cases i with
    | zero =>
      simp at h; subst h
      rw [Nat.zero_mul, Nat.zero_add]
      show (prC q ++ pairsC l)[j]? = _
      rw [List.getElem?_append_left (by rw [prC_len]; exact hj)]
    | succ i =>
      have h' : l[i]? = some p := by simpa using h
      have := ih i h'
      show (prC q ++ pairsC l)[(i + 1) * 6 + j]? = _
      rw [List.getElem?_append_right (by rw [prC_len]; omega), prC_len, show (i + 1) * 6 + j - 6 = i * 6 + j from by omega]
      exact this
theorem Vals.pair {w : World} {a : Option Addr} {l : List Pr} (h : Vals w a (pairsC l)) (i : Nat) (p : Pr) (hp : l[i]? = some p) :
    ∃ g off, a = some ⟨g, off, none⟩ /\ g < w.heap.size /\ w.cell? ⟨g, off + i * 6, none⟩ = some (.string p.key) /\ w.cell? ⟨g, off + i * 6 + 1, none⟩ = some (.int .i64 p.en.seq) /\ w.cell? ⟨g, off + i * 6 + 2, none⟩ = some (.int .i64 p.en.off) /\
      w.cell? ⟨g, off + i * 6 + 3, none⟩ = some (.int .i64 p.en.len) /\ w.cell? ⟨g, off + i * 6 + 4, none⟩ = some (.int .i64 p.en.exp) /\ w.cell? ⟨g, off + i * 6 + 5, none⟩ = some (.bool p.en.hit) := by
  have hi := (List.getElem?_eq_some_iff.1 hp).1
  obtain ⟨g, off, ha, hg, _⟩ := h (i * 6) (by rw [pairsC_len]; omega)
  have c : ∀ j, j < 6 -> w.cell? ⟨g, off + (i * 6 + j), none⟩ = (prC p)[j]? := fun j hj => by
    obtain ⟨g', off', ha', _, hc⟩ := h (i * 6 + j) (by rw [pairsC_len]; omega)
    rw [ha] at ha'
    cases ha'
    rw [hc, pairsC_at l i p hp j hj]
  exact ⟨g, off, ha, hg, c 0 (by omega), c 1 (by omega), c 2 (by omega), c 3 (by omega), c 4 (by omega), c 5 (by omega)⟩
theorem own_base {w : World} {base base' : Nat} {e : TypeId} {size : Nat} {v : Value} {k : Nat} {xs : List Value} (h : w.ownsRow base e size v k xs) (hb : base' <= base) : w.ownsRow base' e size v k xs := by
  refine ⟨h.1, ?_⟩
  rcases h.2 with hn | ⟨g, cap, cur, hv, hbg, rest⟩
  · exact .inl hn
  · exact .inr ⟨g, cap, cur, hv, Nat.le_trans hb hbg, rest⟩
theorem prinfo : (prog.info? 112).map (fun i => (i.zero, i.size, i.bytes)) = some (some (.agg #[.string ByteArray.empty, .int .i64 0, .int .i64 0, .int .i64 0, .int .i64 0, .bool false]), 6, 56) := by kernel_rfl
theorem one6 (k : ByteArray) (e : Ent) : ∀ u ∈ [Value.string k, .int .i64 e.seq, .int .i64 e.off, .int .i64 e.len, .int .i64 e.exp, .bool e.hit], u.oneCell' = true := by
  intro u hu
  simp only [List.mem_cons, List.not_mem_nil, or_false] at hu
  rcases hu with rfl | rfl | rfl | rfl | rfl | rfl <;> rfl
def entR : Value -> Option (DataW Ent × List MemPlace)
  | .agg xs => match xs.toList with
    | [.int .i64 a, .int .i64 b, .int .i64 c, .int .i64 d, .bool h] => some (.held ⟨a, b, c, d, h⟩, [])
    | _ => none
  | _ => none
theorem entR_mk (e : Ent) : entR (entV e) = some (.held e, []) := rfl
theorem entR_inv {v : Value} {d : DataW Ent} {ps : List MemPlace} (h : entR v = some (d, ps)) : ∃ e, v = entV e /\ d = .held e := by
  unfold entR at h
  split at h
  · rename_i xs
    split at h
    · rename_i a b c d' hh hx
      cases h
      refine ⟨⟨a, b, c, d', hh⟩, ?_, rfl⟩
      have : xs = #[.int .i64 a, .int .i64 b, .int .i64 c, .int .i64 d', .bool hh] := by
        rw [<- Array.toArray_toList (xs := xs), hx]
      rw [this]
    · cases h
  · cases h
end Go.Proofs.YtbikkioipamlmaaGreatDoor.T16
namespace Go.Proofs.YtbikkioipamlmaaGreatDoor.T16
open Go.RowKit
theorem flat_len {α : Type} (g : α -> List Value) (C : Nat) (hC : ∀ x, (g x).length = C) (l : List α) : (l.flatMap g).length = l.length * C := by
  induction l with
  | nil => simp
  | cons x l ih => rw [List.flatMap_cons, List.length_append, hC, ih, List.length_cons, Nat.add_mul]; omega
theorem flat_at {α : Type} (g : α -> List Value) (C : Nat) (hC : ∀ x, (g x).length = C) (l : List α) (i : Nat) (x : α) (h : l[i]? = some x) (j : Nat) (hj : j < C) : (l.flatMap g)[i * C + j]? = (g x)[j]? := by
  induction l generalizing i with
  | nil => simp at h
  | cons q l ih =>
    rw [List.flatMap_cons]
    cases i with
    | zero =>
      simp at h; subst h
      rw [Nat.zero_mul, Nat.zero_add, List.getElem?_append_left (by rw [hC]; exact hj)]
    | succ i =>
      rw [List.getElem?_append_right (by rw [hC, Nat.add_mul]; omega), hC, show (i + 1) * C + j - C = i * C + j from by rw [Nat.add_mul]; omega]
      exact ih i (by simpa using h)
theorem Vals.row {w : World} {a : Option Addr} {α : Type} {g : α -> List Value} {C : Nat} (hC : ∀ x, (g x).length = C) (h0 : 0 < C) {l : List α} (h : Vals w a (l.flatMap g)) (i : Nat) (x : α) (hx : l[i]? = some x) :
    ∃ b off, a = some ⟨b, off, none⟩ /\ b < w.heap.size /\ ∀ j, j < C -> w.cell? ⟨b, off + (i * C + j), none⟩ = (g x)[j]? := by
  have hi := (List.getElem?_eq_some_iff.1 hx).1
  have hl := flat_len g C hC l
  have hlt : ∀ j, j < C -> i * C + j < (l.flatMap g).length := fun j hj => by
    rw [hl]
    have : (i + 1) * C <= l.length * C := Nat.mul_le_mul_right _ hi
    rw [Nat.add_mul] at this
    omega
  obtain ⟨b, off, ha, hb, _⟩ := h (i * C + 0) (hlt 0 h0)
  refine ⟨b, off, ha, hb, fun j hj => ?_⟩
  obtain ⟨b', off', ha', _, hc⟩ := h (i * C + j) (hlt j hj)
  rw [ha] at ha'
  cases ha'
  rw [hc, flat_at g C hC l i x hx j hj]
def byV (k : ByteArray) : List Value := k.data.toList.map fun b => Value.int .u8 (b.toNat : Int)
theorem byV_len (k : ByteArray) : (byV k).length = k.size := by
  unfold byV
  rw [List.length_map]
  rfl
structure Fd where
  off : Int
  len : Int
  kind : Int
  exp : Int
  ka : Option Addr
  kc : Nat
  key : ByteArray
  va : Option Addr
  vn : Nat
  vc : Nat
def Fd.cells (f : Fd) : List Value := [.int .i64 f.off, .int .i64 f.len, .int .i64 f.kind, .slice f.ka f.key.size f.kc, .slice f.va f.vn f.vc, .int .i64 f.exp]
def Fd.rc (seq : Int) (f : Fd) : Rc := ⟨seq, f.off, f.len, f.kind, f.key, f.exp⟩
theorem Fd.cells_len (f : Fd) : f.cells.length = 6 := rfl
structure KeyIn (w : World) (f : Fd) : Prop where
  vals : Vals w f.ka (byV f.key)
  le : f.key.size <= 255
theorem KeyIn.below {w w' : World} {f : Fd} (h : KeyIn w f) (hb : Below w.heap.size w w') : KeyIn w' f := ⟨h.vals.below hb (Nat.le_refl _), h.le⟩
theorem vals_conv {w : World} {a : Option Addr} {c : Nat} {k : ByteArray} (h : Vals w a (byV k)) : (convert 33 9 (.slice a k.size c)).run prog w = .ok (.string k) w := by
  by_cases hk : k.size = 0
  · rw [hk, run_convert_bytes_string w 33 9 5 a 0 c Tryz.underlying33 Tryz.underlying5 Tryz.underlying9]
    have e : k = ByteArray.empty := by
      cases k with
      | mk d =>
        have : d.size = 0 := hk
        have : d = #[] := Array.eq_empty_of_size_eq_zero this
        rw [this]; rfl
    subst e
    cases a <;> simp [Conv.bytesToString, loadCells]
    all_goals rfl
  · obtain ⟨b, off, rfl, _, _⟩ := h 0 (by rw [byV_len]; omega)
    have hl : k.size = k.data.toList.length := rfl
    rw [hl, run_convert_bytes_back w 33 9 5 ⟨b, off, none⟩ c k.data.toList Tryz.underlying33 Tryz.underlying5 Tryz.underlying9 (fun j hj => ?_)]
    obtain ⟨b', off', ha', _, hc⟩ := h j (by rw [byV_len]; exact hj)
    cases ha'
    rw [Go.WideShapes.add_plain, hc]
    unfold byV
    rw [List.getElem?_map, List.getElem?_eq_getElem hj]; rfl
structure Bt where
  seq : Int
  a : Option Addr
  c : Nat
  fs : List Fd
def Bt.cells (b : Bt) : List Value := [.int .i64 b.seq, .slice b.a b.fs.length b.c]
theorem Bt.cells_len (b : Bt) : b.cells.length = 2 := rfl
def Bt.rcs (b : Bt) : List Rc := b.fs.map (Fd.rc b.seq)
def recs (bs : List Bt) : List Rc := bs.flatMap Bt.rcs
theorem recs_append (l l' : List Bt) : recs (l ++ l') = recs l ++ recs l' := by unfold recs; rw [List.flatMap_append]
theorem recs_one (b : Bt) : recs [b] = b.rcs := by unfold recs; simp
structure BtIn (w : World) (b : Bt) : Prop where
  vals : Vals w b.a (b.fs.flatMap Fd.cells)
  keys : ∀ f ∈ b.fs, KeyIn w f
  le : b.fs.length <= 8
theorem BtIn.below {w w' : World} {b : Bt} (h : BtIn w b) (hb : Below w.heap.size w w') : BtIn w' b := ⟨h.vals.below hb (Nat.le_refl _), fun f hf => (h.keys f hf).below hb, h.le⟩
structure BtsIn (w : World) (a : Option Addr) (bs : List Bt) : Prop where
  vals : Vals w a (bs.flatMap Bt.cells)
  bts : ∀ b ∈ bs, BtIn w b
theorem BtsIn.below {w w' : World} {a : Option Addr} {bs : List Bt} (h : BtsIn w a bs) (hb : Below w.heap.size w w') : BtsIn w' a bs := ⟨h.vals.below hb (Nat.le_refl _), fun b hb' => (h.bts b hb').below hb⟩
theorem BtsIn.at {w : World} {a : Option Addr} {bs : List Bt} (h : BtsIn w a bs) (i : Nat) (x : Bt) (hx : bs[i]? = some x) :
    ∃ b off, a = some ⟨b, off, none⟩ /\ b < w.heap.size /\ w.cell? ⟨b, off + i * 2, none⟩ = some (.int .i64 x.seq) /\ w.cell? ⟨b, off + i * 2 + 1, none⟩ = some (.slice x.a x.fs.length x.c) /\ BtIn w x := by
  obtain ⟨b, off, ha, hb, hc⟩ := Vals.row Bt.cells_len (by omega) h.vals i x hx
  exact ⟨b, off, ha, hb, hc 0 (by omega), hc 1 (by omega), h.bts x (List.mem_of_getElem? hx)⟩
theorem BtIn.at {w : World} {x : Bt} (h : BtIn w x) (j : Nat) (f : Fd) (hf : x.fs[j]? = some f) :
    ∃ b off, x.a = some ⟨b, off, none⟩ /\ b < w.heap.size /\ w.cell? ⟨b, off + j * 6, none⟩ = some (.int .i64 f.off) /\ w.cell? ⟨b, off + j * 6 + 1, none⟩ = some (.int .i64 f.len) /\ w.cell? ⟨b, off + j * 6 + 2, none⟩ = some (.int .i64 f.kind) /\
      w.cell? ⟨b, off + j * 6 + 3, none⟩ = some (.slice f.ka f.key.size f.kc) /\ w.cell? ⟨b, off + j * 6 + 4, none⟩ = some (.slice f.va f.vn f.vc) /\ w.cell? ⟨b, off + j * 6 + 5, none⟩ = some (.int .i64 f.exp) /\ KeyIn w f := by
  obtain ⟨b, off, ha, hb, hc⟩ := Vals.row Fd.cells_len (by omega) h.vals j f hf
  exact ⟨b, off, ha, hb, hc 0 (by omega), hc 1 (by omega), hc 2 (by omega), hc 3 (by omega), hc 4 (by omega), hc 5 (by omega), h.keys f (List.mem_of_getElem? hf)⟩
def liveI (now e : Int) : Bool := decide (e = 0) || decide (now < e)
end Go.Proofs.YtbikkioipamlmaaGreatDoor.T16
