/-
  The contract of Set.
-/
import Derived.Test.YtbfkhghegkiifaaTabGrow
namespace Go.Proofs.Ytbfkhghegkiifaa
open Go.RowKit
set_option linter.unusedVariables false
/-- what a call keeps of the table's place in memory -/
structure St (w w' : World) (tb : Nat) (vn vo vn' vo' : Value) : Prop where
  own : ∀ j, tfoot tb vn' vo' j → tfoot tb vn vo j ∨ w.heap.size ≤ j
  fr : Fr (tfoot tb vn vo) w w'
theorem St.trans {a b c : World} {tb : Nat} {v0 u0 v1 u1 v2 u2 : Value} (h : St a b tb v0 u0 v1 u1) (k : St b c tb v1 u1 v2 u2) : St a c tb v0 u0 v2 u2 := by
  have hs := h.fr.size
  refine ⟨fun j hj => ?_, h.fr.trans k.fr h.own⟩
  rcases k.own j hj with h1 | h1
  · exact h.own j h1
  · exact .inr (by omega)
theorem St.below {a b : World} {tb : Nat} {v u : Value} (h : Below a.heap.size a b) : St a b tb v u v u := ⟨fun j hj => .inl hj, .of_below h⟩
theorem MoveQ.st {w w' : World} {tb : Nat} {vn vo vo' : Value} {T T' : Tab} (h : MoveQ w w' tb vn vo vo' T T') : St w w' tb vn vo vn vo' :=
  ⟨fun j hj => .inl (hj.imp id (fun h1 => h1.imp id (fun h2 => h.own j h2))), h.fr⟩
theorem ForgQ.st {w w' : World} {tb : Nat} {vn vo : Value} {T T' : Tab} {k : ByteArray} {b : Bool} (h : ForgQ w w' tb vn vo T T' k b) : St w w' tb vn vo vn vo := ⟨fun j hj => .inl hj, h.fr⟩
theorem GrowQ.st {w w' : World} {tb : Nat} {vn vo vn' vo' : Value} {T T' : Tab} (h : GrowQ w w' tb vn vo vn' vo' T T') : St w w' tb vn vo vn' vo' := ⟨h.own, h.fr.mono (fun j _ e => .inl e)⟩
def Tab.tot (T : Tab) : Nat := T.nowLen + T.oldLen
theorem findNow {w : World} {tb : Nat} {vn vo : Value} {T : Tab} (h : Tb w tb vn vo T) (hI : TI T) (k : ByteArray) (hk : k.size ≤ 9223372036854775807) :
    Calls Try.prog 23 #[.agg #[.int .i64 (T.nb : Int), vn], .string k] w (FindE w T.now (homeN T.nb k) k) := by
  obtain ⟨g, cap, rfl, hcap⟩ := own_slice7 h.now (by rw [hI.nlen]; exact Nat.pow_pos (by omega))
  obtain ⟨_, _, hvs, hv, _, _, _, _, _⟩ := ownsRow_vals h.now
  cases hvs
  exact find25 T.now.length T.nb cap (some ⟨g, 0, none⟩) T.now k w rfl hI.nlen (by have := hI.n3; omega) hI.n30 hk hv hI.emp
theorem findOld {w : World} {tb : Nat} {vn vo : Value} {T : Tab} (h : Tb w tb vn vo T) (hI : TI T) (k : ByteArray) (hk : k.size ≤ 9223372036854775807) (h0 : 0 < T.oldLen) :
    Calls Try.prog 23 #[.agg #[.int .i64 (T.ob : Int), vo], .string k] w (FindE w T.old (homeN T.ob k) k) := by
  have hat := hI.at_lt h0
  obtain ⟨o1, o2, o3, o4, o5⟩ := hI.old_inv (List.getElem?_eq_getElem hat)
  obtain ⟨g, cap, rfl, hcap⟩ := own_slice7 h.old (by omega)
  obtain ⟨_, _, hvs, hv, _, _, _, _, _⟩ := ownsRow_vals h.old
  cases hvs
  exact find25 T.old.length T.ob cap (some ⟨g, 0, none⟩) T.old k w rfl o1 o2 o3 hk hv o5
theorem TI.put {T : Tab} {i : Nat} {b : Bool} {k : ByteArray} {e : Ent} (h : TI T) (f : FindR T.now (homeN T.nb k) k i b) (hno : ∀ e', ¬ HasK T.old k e')
    (hroom : b = true ∨ (4 * T.tot + 4 ≤ 3 * 2 ^ T.nb ∧ T.oldLen + 8 * T.tot + 8 ≤ 6 * 2 ^ T.nb)) (hk : k.size ≤ 9223372036854775807) :
    TI (T.put i b k e) ∧ ∀ k' e', Has (T.put i b k e) k' e' ↔ (k' = k ∧ e' = e) ∨ (k' ≠ k ∧ Has T k' e') := by
  have hput := put_has h (e := e) f
  have hu := put_used (e := e) f
  have hcn := h.cnow
  have hcap := h.cap
  have hsl := h.slack
  unfold Tab.tot at hroom
  have e3 : (T.put i b k e).nowLen = T.nowLen + (if b = true then 0 else 1) := rfl
  have e2 : (T.put i b k e).oldLen = T.oldLen := rfl
  have e4 : (T.put i b k e).nb = T.nb := rfl
  have hhas : ∀ k' e', Has (T.put i b k e) k' e' ↔ (k' = k ∧ e' = e) ∨ (k' ≠ k ∧ Has T k' e') := fun k' e' => by
    constructor
    · rintro (hh | hh)
      · rcases (hput k' e').1 hh with h1 | ⟨h1, h2⟩
        · exact .inl h1
        · exact .inr ⟨h1, .inl h2⟩
      · exact .inr ⟨fun e0 => by subst e0; exact hno e' hh, .inr hh⟩
    · rintro (h1 | ⟨h1, h2 | h2⟩)
      · exact .inl ((hput k' e').2 (.inl h1))
      · exact .inl ((hput k' e').2 (.inr ⟨h1, h2⟩))
      · exact .inr h2
  refine ⟨⟨h.n3, h.n30, by show (T.now.set i _).length = _; rw [List.length_set]; exact h.nlen, put_inv h f, put_st h i _ _, ?_, h.iold, h.cold, h.at0, ?_, ?_, ?_, ?_⟩, hhas⟩
  · show usedN (T.now.set i _) = _
    rw [hu, e3]; omega
  · intro k' e' e'' hh hh'
    rcases (hput k' e').1 hh with ⟨rfl, _⟩ | ⟨_, h3⟩
    · exact hno e'' hh'
    · exact h.disj k' e' e'' h3 hh'
  · rw [e2, e3, e4]
    rcases hroom with rfl | ⟨h1, _⟩
    · simp; omega
    · split <;> omega
  · rw [e2, e3, e4]
    rcases hroom with rfl | ⟨_, h1⟩
    · simp; omega
    · split <;> omega
  · intro k' e' hh
    rcases (hhas k' e').1 hh with ⟨rfl, _⟩ | ⟨_, h1⟩
    · exact hk
    · exact h.ks k' e' h1
structure SetI (T T' : Tab) (k : ByteArray) (e : Ent) : Prop where
  ti : TI T'
  has : ∀ k' e', Has T' k' e' ↔ (k' = k ∧ e' = e) ∨ (k' ≠ k ∧ Has T k' e')
  tot : ((∃ e0, Has T k e0) ∧ T'.tot = T.tot) ∨ ((∀ e0, ¬ Has T k e0) ∧ T'.tot = T.tot + 1)
  w8 : T'.work ≤ 8
theorem ready_move {w w' : World} {tb : Nat} {vn vo vo' : Value} {T T' : Tab} (hI : TI T) (h : MoveQ w w' tb vn vo vo' T T') : Ready T' := by
  have h1 := h.ol
  have h2 := h.tot
  have h3 := hI.slack
  unfold Ready
  rw [h.nb']
  omega
theorem ready_forg {w w' : World} {tb : Nat} {vn vo : Value} {T T' : Tab} {k : ByteArray} {b : Bool} (hr : Ready T) (h : ForgQ w w' tb vn vo T T' k b) : Ready T' := by
  have h1 := h.ol
  have h2 := h.nl
  unfold Ready at *
  rw [h.nb']
  split at h1 <;> omega
/-- the key was there: its entry is laid over the old one -/
theorem set_over {T T1 T2 : Tab} {w w1 w2 w3 : World} {tb i : Nat} {vn vo vo' : Value} {k : ByteArray} {e : Ent} {b : Bool} (hm : MoveQ w w1 tb vn vo vo' T T1) (hf : ForgQ w2 w3 tb vn vo' T1 T2 k b) (hp : FindR T2.now (homeN T2.nb k) k i true) (hk : k.size ≤ 9223372036854775807) :
    SetI T (T2.put i true k e) k e := by
  have hno : ∀ e', ¬ HasK T2.old k e' := fun e' hh => ((hf.old k e').1 hh).1 rfl
  obtain ⟨q, hq, hq1, hqk⟩ := find_true hp
  have hn1 : HasK T1.now k q.en := by rw [← hf.now]; exact ⟨i, q, hq, hq1, hqk, rfl⟩
  have hbf : b = false := by
    cases b with
    | false => rfl
    | true => obtain ⟨e', he'⟩ := hf.hit.1 rfl; exact absurd he' (hm.ti.disj k q.en e' hn1)
  subst hbf
  obtain ⟨t1, t2⟩ := hf.ti.put (e := e) hp hno (.inl rfl) hk
  refine ⟨t1, fun k' e' => ?_, .inl ⟨⟨q.en, (hm.has _ _).1 (.inl hn1)⟩, ?_⟩, by show T2.work ≤ 8; rw [hf.wk]; exact hm.w8⟩
  · rw [t2, ← hm.has k' e']
    have : k' ≠ k → (Has T2 k' e' ↔ Has T1 k' e') := fun hne => by
      unfold Has; rw [hf.now, hf.old]; simp [hne]
    constructor
    · rintro (h1 | ⟨h1, h2⟩)
      · exact .inl h1
      · exact .inr ⟨h1, (this h1).1 h2⟩
    · rintro (h1 | ⟨h1, h2⟩)
      · exact .inl h1
      · exact .inr ⟨h1, (this h1).2 h2⟩
  · have h1 := hf.ol; have h2 := hf.nl; have h3 := hm.tot
    simp at h1
    unfold Tab.tot
    show T2.nowLen + 0 + T2.oldLen = _
    omega
/-- the key was not among the present ones -/
theorem set_new {T T1 T2 T3 T4 : Tab} {w w1 w2 w3 w4 w5 : World} {tb i : Nat} {vn vo vo' vn'' vo'' : Value} {k : ByteArray} {e : Ent} {b b3 b4 : Bool} {i2 : Nat} (hm : MoveQ w w1 tb vn vo vo' T T1) (hf : ForgQ w2 w3 tb vn vo' T1 T2 k b) (hp : FindR T2.now (homeN T2.nb k) k i2 false) (hg : GrowI T2 T3)
    (hf2 : ForgQ w4 w5 tb vn'' vo'' T3 T4 k b3) (hp2 : FindR T4.now (homeN T4.nb k) k i b4) (hk : k.size ≤ 9223372036854775807) : SetI T (T4.put i b4 k e) k e := by
  have hno2 : ∀ e', ¬ Has T2 k e' := fun e' hh => hh.elim (fun hh => find_none hf.ti.inow hp e' hh) (fun hh => ((hf.old k e').1 hh).1 rfl)
  have hno3 : ∀ e', ¬ Has T3 k e' := fun e' hh => hno2 e' ((hg.has k e').1 hh)
  have hb3 : b3 = false := by
    cases b3 with
    | false => rfl
    | true => obtain ⟨e', he'⟩ := hf2.hit.1 rfl; exact absurd (.inr he') (hno3 e')
  subst hb3
  have hno4 : ∀ e', ¬ HasK T4.old k e' := fun e' hh => ((hf2.old k e').1 hh).1 rfl
  have hb4 : b4 = false := by
    cases b4 with
    | false => rfl
    | true =>
      obtain ⟨q, hq, hq1, hqk⟩ := find_true hp2
      exact absurd (show Has T3 k q.en from .inl (by rw [← hf2.now]; exact ⟨i, q, hq, hq1, hqk, rfl⟩)) (hno3 q.en)
  subst hb4
  have o1 := hf2.ol; have o2 := hf2.nl; have o3 := hg.tot; have o4 := hf.ol; have o5 := hf.nl; have o6 := hm.tot
  have c1 := hg.cap1; have c2 := hg.room; have c3 := hf2.nb'
  simp only [Bool.false_eq_true, if_false] at o1
  obtain ⟨t1, t2⟩ := hf2.ti.put (e := e) hp2 hno4 (.inr (by unfold Tab.tot; rw [c3]; constructor <;> omega)) hk
  have hre : ∀ k', k' ≠ k → ∀ e', (Has T4 k' e' ↔ Has T k' e') := fun k' hne e' => by
    have e1 : Has T4 k' e' ↔ Has T3 k' e' := by unfold Has; rw [hf2.now, hf2.old]; simp [hne]
    have e2 : Has T2 k' e' ↔ Has T1 k' e' := by unfold Has; rw [hf.now, hf.old]; simp [hne]
    rw [e1, hg.has, e2, hm.has]
  have hw1 := hf2.wk; have hw2 := hg.wk; have hw3 := hf.wk; have hw4 := hm.w8
  refine ⟨t1, fun k' e' => ?_, ?_, by show T4.work ≤ 8; omega⟩
  · rw [t2]
    constructor
    · rintro (h1 | ⟨h1, h2⟩)
      · exact .inl h1
      · exact .inr ⟨h1, (hre k' h1 e').1 h2⟩
    · rintro (h1 | ⟨h1, h2⟩)
      · exact .inl h1
      · exact .inr ⟨h1, (hre k' h1 e').2 h2⟩
  · have ht : (T4.put i false k e).tot = T2.tot + 1 := by unfold Tab.tot; show T4.nowLen + 1 + T4.oldLen = _; omega
    cases b with
    | true =>
      obtain ⟨e', he'⟩ := hf.hit.1 rfl
      simp only [if_true] at o4
      refine .inl ⟨⟨e', (hm.has _ _).1 (.inr he')⟩, ?_⟩
      rw [ht]; unfold Tab.tot; omega
    | false =>
      simp only [Bool.false_eq_true, if_false] at o4
      refine .inr ⟨fun e0 hh => ?_, by rw [ht]; unfold Tab.tot; omega⟩
      rcases (hm.has k e0).2 hh with h1 | h1
      · exact hno2 e0 (.inl (by rw [hf.now]; exact h1))
      · exact absurd (hf.hit.2 ⟨e0, h1⟩) (by simp)
def SetE (w : World) (tb : Nat) (vn vo : Value) (T : Tab) (k : ByteArray) (e : Ent) (e' : Ending) (w' : World) : Prop :=
  e' = .returned (.tuple #[]) ∧ ∃ vn' vo' T', Tb w' tb vn' vo' T' ∧ St w w' tb vn vo vn' vo' ∧ SetI T T' k e
set_option maxRecDepth 100000 in
set_option maxHeartbeats 8000000 in
theorem set9 (tb : Nat) (vn vo : Value) (T : Tab) (k : ByteArray) (e : Ent) (w : World) (h : Tb w tb vn vo T) (hI : TI T) (hk : k.size ≤ 9223372036854775807) (hs : T.tot ≤ 1000000) :
    Calls Try.prog 14 #[.pointer (some ⟨tb, 0, none⟩), .string k, entV e] w (SetE w tb vn vo T k e) := by
  have hbx : Below w.heap.size w (w.alloc (.cells #[.int .i64 e.seq, .int .i64 e.off, .int .i64 e.len, .int .i64 e.exp, .bool e.hit] 36)) := (Below.refl _ _).alloc (Nat.le_refl _) _
  have M := Lib.hid (move23 tb vn vo T _ (h.below hbx) hI)
  have HI := Lib.hid hI
  have ST0 := Lib.hid (St.below (tb := tb) (v := vn) (u := vo) hbx)
  have XL := Lib.hid (fun k hk => h.lt k hk)
  unfold entV
  have HS := Lib.hid hs
  unfold Tab.tot at HS
  clear h hI hbx hs
  go_enter Try.func14, Try.ntmps14
  go_wp2_with fail
  with_reducible refine M.out.mono ?_
  rintro e' w1 ⟨rfl, vo1, T1, hm⟩
  have HM := Lib.hid hm
  have hx : w1.heap[w.heap.size]? = some (.cells #[.int .i64 e.seq, .int .i64 e.off, .int .i64 e.len, .int .i64 e.exp, .bool e.hit] 36 (0, 0)) := by
    rw [hm.fr.block w.heap.size (by simp) (fun hj => by have := XL.out _ hj; omega)]
    show (w.heap.push _)[w.heap.size]? = _
    simp
  have HX := Lib.hid hx
  have ST1 := Lib.hid (ST0.out.trans hm.st)
  have XN := Lib.hid (show ¬ tfoot tb vn vo1 w.heap.size from fun hj => by have := XL.out w.heap.size (hj.imp id (fun h1 => h1.imp id (fun h2 => hm.own _ h2))); omega)
  have XS := Lib.hid (show w.heap.size < w1.heap.size from blk_lt hx)
  have FG := Lib.hid (forget24 tb vn vo1 T1 k w1 hk hm.tb' hm.ti)
  clear hm hx M ST0
  go_wp2_with fail
  with_reducible refine FG.out.mono ?_
  rintro e' w2 ⟨b, T2, rfl, hf⟩
  have HF := Lib.hid hf
  have HX2 := Lib.hid ((hf.fr.block w.heap.size XS.out XN.out).trans HX.out)
  have ST2 := Lib.hid (ST1.out.trans hf.st)
  have XS2 := Lib.hid (Nat.lt_of_lt_of_le XS.out hf.fr.size)
  have FN := Lib.hid (findNow hf.tb' hf.ti k hk)
  obtain ⟨⟨t0, t1, t2, t3, t4, t5, t6, t7⟩, tf⟩ := hf.tb'.cells
  clear hf FG HX XS
  go_wp2_with fail
  with_reducible refine FN.out.mono ?_
  rintro e' w3 ⟨i, b2, rfl, hfr, hb3⟩
  have FR := Lib.hid hfr
  have TB3 := Lib.hid (HF.out.tb'.below hb3)
  have HX3 := Lib.hid ((hb3.block w.heap.size XS2.out).trans HX2.out)
  have ST3 := Lib.hid (ST2.out.trans (.below hb3))
  have XS3 := Lib.hid (Nat.lt_of_lt_of_le XS2.out hb3.size)
  have HL := Lib.hid (show T2.tot ≤ 1000000 from by
    have o4 := HF.out.ol; have o5 := HF.out.nl; have o6 := HM.out.tot; have := HS.out
    unfold Tab.tot; split at o4 <;> omega)
  clear t0 t1 t2 t3 t4 t5 t6 t7 tf hfr hb3 FN ST1 ST2 HX2 XS2
  cases b2 with
  | true =>
    have PU := Lib.hid (put27 tb vn vo1 T2 k e w3 TB3.out HF.out.ti.nlen (by have := HF.out.ti.n3; omega) HF.out.ti.n30 hk (by have := HL.out; unfold Tab.tot at this; omega) HF.out.ti.emp)
    have x0 := blk_cell (i := 0) HX3.out; have x1 := blk_cell (i := 1) HX3.out; have x2 := blk_cell (i := 2) HX3.out; have x3 := blk_cell (i := 3) HX3.out; have x4 := blk_cell (i := 4) HX3.out
    simp only [List.getElem?_toArray, List.getElem?_cons_zero, List.getElem?_cons_succ] at x0 x1 x2 x3 x4
    go_wp2_with fail
    with_reducible refine PU.out.mono ?_
    rintro e' w4 ⟨rfl, i2, b2, f2, tb4, fr4⟩
    have hb2 : b2 = true := by
      cases b2 with
      | true => rfl
      | false =>
        obtain ⟨q, hq, hq1, hqk⟩ := find_true FR.out
        exact absurd ⟨i, q, hq, hq1, hqk, rfl⟩ (find_none HF.out.ti.inow f2 q.en)
    subst hb2
    have Q := Lib.hid (set_over (e := e) HM.out HF.out f2 hk)
    have T4 := Lib.hid tb4
    have ST4 := Lib.hid (ST3.out.trans (⟨fun j hj => .inl hj, fr4.mono (fun j _ hj => hj.imp id .inl)⟩ : St w3 w4 tb vn vo1 vn vo1))
    clear x0 x1 x2 x3 x4 tb4 fr4 f2 PU
    go_wp2_with fail
    go_end0
    exact ⟨rfl, _, _, _, T4.out, ST4.out, Q.out⟩
  | false =>
    have GR := Lib.hid (grow26 tb vn vo1 T2 w3 TB3.out HF.out.ti (ready_forg (ready_move HI.out HM.out) HF.out) HL.out)
    go_wp2_with fail
    with_reducible refine GR.out.mono ?_
    rintro e' w4 ⟨rfl, vn4, vo4, T4, hg⟩
    have HG := Lib.hid hg
    have ne3 : w.heap.size ≠ tb := fun e => XN.out (.inl e)
    have HX4 := Lib.hid ((hg.fr.block w.heap.size XS3.out ne3).trans HX3.out)
    have XN4 := Lib.hid (show ¬ tfoot tb vn4 vo4 w.heap.size from fun hj => by
      rcases hg.own _ hj with h1 | h1
      · exact XN.out h1
      · have := XS3.out; omega)
    have XS4 := Lib.hid (Nat.lt_of_lt_of_le XS3.out hg.fr.size)
    have ST4 := Lib.hid (ST3.out.trans hg.st)
    have FG := Lib.hid (forget24 tb vn4 vo4 T4 k w4 hk hg.tb' hg.gi.ti)
    clear hg GR ne3
    go_wp2_with fail
    with_reducible refine FG.out.mono ?_
    rintro e' w5 ⟨b5, T5, rfl, hf5⟩
    have HF5 := Lib.hid hf5
    have HX5 := (hf5.fr.block w.heap.size XS4.out XN4.out).trans HX4.out
    have ST5 := Lib.hid (ST4.out.trans hf5.st)
    have HN5 : T5.nowLen ≤ 2000000000 := by
      have h1 := hf5.nl; have h2 := HG.out.gi.tot; have h3 := HL.out; unfold Tab.tot at h3; omega
    have PU := Lib.hid (put27 tb vn4 vo4 T5 k e w5 hf5.tb' hf5.ti.nlen (by have := hf5.ti.n3; omega) hf5.ti.n30 hk HN5 hf5.ti.emp)
    have x0 := blk_cell (i := 0) HX5; have x1 := blk_cell (i := 1) HX5; have x2 := blk_cell (i := 2) HX5; have x3 := blk_cell (i := 3) HX5; have x4 := blk_cell (i := 4) HX5
    simp only [List.getElem?_toArray, List.getElem?_cons_zero, List.getElem?_cons_succ] at x0 x1 x2 x3 x4
    clear hf5 HX5 FG
    go_wp2_with fail
    with_reducible refine PU.out.mono ?_
    rintro e' w6 ⟨rfl, i6, b6, f6, tb6, fr6⟩
    have Q := Lib.hid (set_new (e := e) HM.out HF.out FR.out HG.out.gi HF5.out f6 hk)
    have T6 := Lib.hid tb6
    have ST6 := Lib.hid (ST5.out.trans (⟨fun j hj => .inl hj, fr6.mono (fun j _ hj => hj.imp id .inl)⟩ : St w5 w6 tb vn4 vo4 vn4 vo4))
    clear x0 x1 x2 x3 x4 tb6 fr6 f6 PU
    go_wp2_with fail
    go_end0
    exact ⟨rfl, _, _, _, T6.out, ST6.out, Q.out⟩
end Go.Proofs.Ytbfkhghegkiifaa
