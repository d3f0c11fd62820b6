/-
  SlotsChoose: Choose, Spare and Cut agree with the reference. No condition.
-/
import Derived.Test.YtkafffoaaklhiaaRefCut
import Derived.Test.YtkafffoaaklhiaaSlotsEndW
namespace Go.Proofs.Ytkafffoaaklhiaa
open Go.RowKit Go.Maps Go.ChangeShapes Go.WideShapes Go.ChangeAt
set_option linter.unusedVariables false
set_option maxRecDepth 100000 in
set_option maxHeartbeats 8000000 in
theorem chooselaw (t : Lay) (a : Option Addr) (len cap : Nat) (L : List Reg) (slot : Int) (w : World) (hlc : len ≤ cap) (hcm : cap ≤ 9223372036854775807) (h0 : a = none → len = 0 ∧ cap = 0) (hl : L.length = len) (hv : Vals w a (regC L)) :
    Calls Try.prog 3 #[.agg #[.int .i64 t.id, .int .i64 t.ver, .int .i64 t.rs, .int .i64 t.rg], .slice a len cap, .int .i64 slot] w fun e w' => e = .returned (.bool true) ∧ Below w.heap.size w w' := by
  have hx : (w.alloc (.cells #[.int .i64 t.id, .int .i64 t.ver, .int .i64 t.rs, .int .i64 t.rg] 23)).heap[w.heap.size]? = some (.cells #[.int .i64 t.id, .int .i64 t.ver, .int .i64 t.rs, .int .i64 t.rg] 23 (0, 0)) := by
    show (w.heap.push _)[w.heap.size]? = _
    simp
  obtain ⟨n, hn⟩ : ∃ n : Nat, (if 10 < (len : Int) then (10 : Int) else (len : Int)) = (n : Int) := ⟨(if 10 < (len : Int) then (10 : Int) else (len : Int)).toNat, by split <;> omega⟩
  have hn10 : n ≤ 10 := by split at hn <;> omega
  have hnl : n ≤ len := by split at hn <;> omega
  have hnc : n ≤ cap := by omega
  have W0 := Lib.hid (show EndW w (w.alloc (.cells #[.int .i64 t.id, .int .i64 t.ver, .int .i64 t.rs, .int .i64 t.rg] 23)) t a (L.take n) from
    ⟨hx, (vals_take hv n).below ((Below.refl _ _).alloc (Nat.le_refl _) _) (Nat.le_refl _), (Below.refl _ _).alloc (Nat.le_refl _) _⟩)
  have hll : (L.take n).length = n := by rw [List.length_take]; omega
  have H0 := Lib.hid (show a = none → n = 0 ∧ cap = 0 from fun h => ⟨by have := (h0 h).1; omega, (h0 h).2⟩)
  obtain ⟨l, hle⟩ : ∃ l, L.take n = l := ⟨_, rfl⟩
  rw [hle] at W0 hll
  have C1 := Lib.hid (fun W (h : Vals W a (regC l)) => choose8 t a n cap l W hll (by omega) h)
  have C2 := Lib.hid (fun W (h : Vals W a (regC l)) => refchoose9 t a n cap l W hll (by omega) h)
  have C3 := Lib.hid (fun W (h : Vals W a (regC l)) => spare11 t a n cap l slot W hll (by omega) h)
  have C4 := Lib.hid (fun W (h : Vals W a (regC l)) => refspare12 t a n cap l slot W hll (by omega) h)
  have C5 := Lib.hid (fun W (h : Vals W a (regC l)) => cut13 t a n cap l W hll (by omega) h H0.out)
  have C6 := Lib.hid (fun W (h : Vals W a (regC l)) => refcut14 t a n cap l W hll (by omega) h)
  obtain ⟨cs, hcs⟩ : ∃ cs, chS t l = cs := ⟨_, rfl⟩
  obtain ⟨cb, hcb⟩ : ∃ cb, chB t l = cb := ⟨_, rfl⟩
  obtain ⟨sp, hsp⟩ : ∃ sp, spB t l slot = sp := ⟨_, rfl⟩
  obtain ⟨cu, hcu⟩ : ∃ cu : Nat, cutD t l = cu := ⟨_, rfl⟩
  rw [hcs, hcb] at C1 C2
  rw [hsp] at C3 C4
  rw [hcu] at C5 C6
  clear hx hv h0 hl hle hll hcs hcb hsp hcu
  go_enter Try.func3, Try.ntmps3
  go_wp2_with fail
  clear hn
  with_reducible refine (C1.out _ W0.out.vals).mono ?_
  rintro e w1 ⟨rfl, hb1⟩
  have W1 := Lib.hid (W0.out.below hb1)
  clear hb1 W0
  have x0 := blk_cell (i := 0) W1.out.box; have x1 := blk_cell (i := 1) W1.out.box; have x2 := blk_cell (i := 2) W1.out.box; have x3 := blk_cell (i := 3) W1.out.box
  simp only [List.getElem?_toArray, List.getElem?_cons_zero, List.getElem?_cons_succ] at x0 x1 x2 x3
  go_wp2_with fail
  with_reducible refine (C2.out _ W1.out.vals).mono ?_
  rintro e w2 ⟨rfl, hb2⟩
  have W2 := Lib.hid (W1.out.below hb2)
  clear hb2 W1 x0 x1 x2 x3
  have x0 := blk_cell (i := 0) W2.out.box; have x1 := blk_cell (i := 1) W2.out.box; have x2 := blk_cell (i := 2) W2.out.box; have x3 := blk_cell (i := 3) W2.out.box
  simp only [List.getElem?_toArray, List.getElem?_cons_zero, List.getElem?_cons_succ] at x0 x1 x2 x3
  have hbx := blk_lt W2.out.box
  have D3 := Lib.hid (fun (x : Ext w2.heap.size w2) => C3.out x.val (W2.out.vals.below x.bel (Nat.le_refl _)))
  have D4 := Lib.hid (fun (x : Ext w2.heap.size w2) => C4.out x.val (W2.out.vals.below x.bel (Nat.le_refl _)))
  have D5 := Lib.hid (fun (x : Ext w2.heap.size w2) => C5.out x.val (W2.out.vals.below x.bel (Nat.le_refl _)))
  have D6 := Lib.hid (fun (x : Ext w2.heap.size w2) => C6.out x.val (W2.out.vals.below x.bel (Nat.le_refl _)))
  have hcbb : (cb == cb) = true := by simp
  have hspp : (sp == sp) = true := by simp
  clear C1 C2 C3 C4 C5 C6
  go_upto_region 4 with fail
  refine wp_region_ext w2.heap.size (by kernel_rfl) (by kernel_rfl) ?_
  have hx := fun (x : Ext w2.heap.size w2) b o h => Ext.cell x b o h
  repeat (go_big_quiet_step (first | (go_at_call 10; with_reducible exact Calls.ext (Nat.le_refl _) (awake10 _)) | (go_at_call 11; with_reducible exact Calls.ext (Nat.le_refl _) (D3.out _)) | (go_at_call 12; with_reducible exact Calls.ext (Nat.le_refl _) (D4.out _)) | (go_at_call 13; with_reducible exact Calls.ext (Nat.le_refl _) (D5.out _)) | (go_at_call 14; with_reducible exact Calls.ext (Nat.le_refl _) (D6.out _)) | (with_reducible exact rfl)))
  refine wpQuiet_nil ?_
  rintro w4 ⟨⟨w5, hb4⟩, (he : w4 = w5)⟩
  subst he
  have B4 := Lib.hid (bel_trans W2.out.bel hb4)
  clear hx hb4 x0 x1 x2 x3 hbx D3 D4 D5 D6
  go_wp2_with fail
  go_ret
  exact ⟨by first | rfl | simp, B4.out⟩
theorem walkSlotsChoose (v0 v1 v2 : Value) (w : World) (base : Nat)
    (o0 : Value.okWide Try.prog w .any base 23 v0) (r0 : Reads Try.prog w 23 v0.cells.toList)
    (o1 : Value.okWide Try.prog w .any base 24 v1) (r1 : Reads Try.prog w 24 v1.cells.toList)
    (o2 : Value.okWide Try.prog w .any base 3 v2) (r2 : Reads Try.prog w 3 v2.cells.toList) :
    Calls Try.prog 3 #[v0, v1, v2] w fun e w' => e = .returned (.bool true) ∧ Below w.heap.size w w' := by
  obtain ⟨t, rfl, ht⟩ := arg_lay o0 r0
  obtain ⟨a, len, cap, L, rfl, h1, h2, h3, h4, h5⟩ := arg_regl o1 r1
  obtain ⟨n, rfl, hn⟩ := arg_int Try.underlying3 o2 r2
  exact chooselaw t a len cap L n w h1 h2 h3 h4 h5
set_option maxRecDepth 100000 in
theorem liftedSlotsChoose (os : Os) (started : os.Started) (H : Type) (enc : TypeId × Value → H) :
    ReturnsInHanded {} Try.checked os 3 .any (Rows.slotsChooseSpec.pre6 enc Try.prog Try.f3 Rows.slotsChooseRow.domain false) (Rows.slotsChooseSpec.post enc Try.prog Try.f3 false true false false) := by
  refine returnsInHanded_of_change (C := Try.checked) own started (by kernel_rfl) Try.func3
    (ChangeSpec.witness6 (enc := enc) (C := Try.checked) false ⟨#[], #[.agg #[.int .i64 0, .int .i64 0, .int .i64 0, .int .i64 0], .slice none 0 0, .int .i64 0], []⟩ 8 (by kernel_rfl) (by kernel_rfl) (by kernel_rfl) (by kernel_rfl)) ?_
  intro W base args ds gs before hval0 hW hcnd _
  have hval : ∀ (j : Nat) t v, Try.f3.params[j]? = some t → args[j]? = some v → Value.okWide Try.prog W .any base t v := hval0
  have hW' := hW
  obtain ⟨p, q, hA0, hV, rfl, hfz, hnd⟩ := hW
  have hA : DataW.TrodAll enc Try.prog W 0 (fun _ => true) true Try.f3.params.toList args.toList ds p := hA0
  rw [Try.params3] at hA hval
  obtain ⟨v0, vs0, d0, ds0, p0, q0, hargs, rfl, rfl, h0, r0⟩ := trodAll_cons hA
  obtain ⟨v1, vs1, d1, ds1, p1, q1, rfl, rfl, rfl, h1, r1⟩ := trodAll_cons r0
  obtain ⟨v2, vs2, d2, ds2, p2, q2, rfl, rfl, rfl, h2, r2⟩ := trodAll_cons r1
  obtain ⟨rfl, rfl, rfl⟩ := trodAll_nil r2
  obtain rfl : args = #[v0, v1, v2] := by cases args; simp_all
  obtain ⟨rfl, rfl⟩ := trodVars_none hV
  have lt0 : ∀ x ∈ p0, x.block < W.heap.size := by obtain ⟨m, hm⟩ := h0; exact DataW.trod_lt m _ _ _ hm
  have lt1 : ∀ x ∈ p1, x.block < W.heap.size := by obtain ⟨m, hm⟩ := h1; exact DataW.trod_lt m _ _ _ hm
  have lt2 : ∀ x ∈ p2, x.block < W.heap.size := by obtain ⟨m, hm⟩ := h2; exact DataW.trod_lt m _ _ _ hm
  clear hA0 hval0
  refine (walkSlotsChoose v0 v1 v2 W base (hval 0 23 v0 rfl rfl) (Reads.of h0) (hval 1 24 v1 rfl rfl) (Reads.of h1) (hval 2 3 v2 rfl rfl) (Reads.of h2)).mono fun e W' ⟨he, bel⟩ => ?_
  subst he
  exact ⟨_, rfl, _, _, _, [], _, [], hW', trodAll_mk1 (shut_bool Try.underlying4 _), (trodAll_cons_mk (Below.trod laidOut (by kernel_rfl) (of_decide_eq_true (by kernel_rfl)) h0 bel lt0) (trodAll_cons_mk (Below.trod laidOut (by kernel_rfl) (of_decide_eq_true (by kernel_rfl)) h1 bel lt1) (trodAll_cons_mk (Below.trod laidOut (by kernel_rfl) (of_decide_eq_true (by kernel_rfl)) h2 bel lt2) trodAll_mk0))), rfl, bel.frame _, fun h => by cases h⟩

theorem overSlotsChoose : Rows.slotsChooseRow.holds Try.pinned (OpenSpec.ofChange Rows.slotsChooseSpec) :=
  OpenClaim.holds_of_wide 3 Try.f3 rfl rfl rfl rfl rfl rfl rfl ⟨rfl, rfl, rfl, rfl, rfl⟩ rfl rfl rfl rfl rfl (by kernel_rfl) Try.func3 (by kernel_rfl)
    (of_decide_eq_true (by kernel_rfl)) (by unfold Func.isWrapper; first | (rw [if_pos (by decide +kernel)]; kernel_rfl) | (rw [if_neg (by decide +kernel)]; exact ⟨rfl, rfl⟩))
    (fun os started H enc _ => liftedSlotsChoose os started H enc)

/-- The statement. -/
theorem slotsChoose_holds : Rows.SlotsChooseSaid := overSlotsChoose
#print axioms slotsChoose_holds
end Go.Proofs.Ytkafffoaaklhiaa
