/-
  ReplayFlush: whatever the batches that come in, what comes before a flush marker does not matter, so the law returns true; the inputs read behind the call as they did. No conditions.
-/
import Derived.Test.YtbfkhghegkiifaaRpFl
namespace Go.Proofs.Ytbfkhghegkiifaa
open Go.RowKit Go.WideShapes Go.ChangeShapes
set_option linter.unusedVariables false
theorem recs_fl (xs ys : List Bt) (g : Nat) : recs ((([] ++ xs) ++ [flB g]) ++ ys) = recs xs ++ (⟨1, 0, 16, 3, ByteArray.empty, 0⟩ : Rc) :: recs ys := by
  rw [recs_append, recs_append, recs_one, List.nil_append, List.append_assoc]
  rfl
set_option maxRecDepth 100000 in
set_option maxHeartbeats 8000000 in
theorem flushlaw (a b : Option Addr) (len cap len' cap' : Nat) (now : Int) (w : World) (hlen : len ≤ 9223372036854775807) (hlen' : len' ≤ 9223372036854775807) (hin : RawBts w a len) (hin' : RawBts w b len') :
    Calls Try.prog 6 #[.slice a len cap, .slice b len' cap', .int .i64 now] w fun e w' => e = .returned (.bool true) ∧ Below w.heap.size w w' := by
  have SH := Lib.hid (short7 a len cap w hlen hin)
  have HI := Lib.hid hin'
  clear hin hin'
  go_enter Try.func6, Try.ntmps6
  go_wp2_with fail
  with_reducible refine SH.out.mono ?_
  rintro e w1 ⟨va, vb, xs, rfl, hx5, du⟩
  obtain ⟨ax, cx, rfl, ix, -, -, nx0, -⟩ := du.inA
  have X1 := Lib.hid ix
  have NX := Lib.hid nx0
  have B1 := Lib.hid du.bel
  have SH2 := Lib.hid (short7 b len' cap' w1 hlen' (HI.out.below du.bel))
  clear SH HI du ix nx0
  obtain ⟨nx, hnx⟩ : ∃ n, xs.length = n := ⟨_, rfl⟩
  rw [hnx] at hx5 NX ⊢
  have HNX := Lib.hid hnx
  clear hnx
  go_wp2_with fail
  with_reducible refine SH2.out.mono ?_
  rintro e w2 ⟨va', vb', ys, rfl, hy5, du⟩
  obtain ⟨ay, cy, rfl, iy, -, -, ny0, -⟩ := du.inA
  have X2 := Lib.hid (X1.out.below du.bel)
  have Y2 := Lib.hid iy
  have NY := Lib.hid ny0
  have B2 := Lib.hid (bel_trans B1.out du.bel)
  clear SH2 du iy ny0 X1 B1
  obtain ⟨ny, hny⟩ : ∃ n, ys.length = n := ⟨_, rfl⟩
  rw [hny] at hy5 NY ⊢
  have HNY := Lib.hid hny
  clear hny
  go_wp2_with fail
  obtain ⟨g, hg⟩ : ∃ g, w2.heap.size = g := ⟨_, rfl⟩
  obtain ⟨w0, hw0⟩ : ∃ w0, (w2.alloc (.cells #[.int .i64 0, .int .i64 16, .int .i64 3, .slice none 0 0, .slice none 0 0, .int .i64 0] 44)).alloc (.cells #[.int .i64 1, .slice (some ⟨w2.heap.size, 0, none⟩) 1 1] 34) = w0 := ⟨_, rfl⟩
  have BW := Lib.hid (show Below w2.heap.size w2 w0 from by rw [← hw0]; exact ((Below.refl _ _).alloc (Nat.le_refl _) _).alloc (by simp) _)
  have hbx : w0.heap[g + 1]? = some (.cells #[.int .i64 1, .slice (some ⟨g, 0, none⟩) 1 1] 34 (0, 0)) := by rw [← hw0, ← hg]; exact heap_two _ _ _
  have FB := Lib.hid (show BtIn w0 (flB g) from flB_in (fr := (0, 0)) (by rw [← hw0, ← hg]; exact heap_fst _ _ _))
  have b0 := blk_cell (i := 0) hbx; have b1 := blk_cell (i := 1) hbx
  simp only [List.getElem?_toArray, List.getElem?_cons_zero, List.getElem?_cons_succ] at b0 b1
  have hgl := blk_lt hbx
  have E0 := Lib.hid (fun (W : World) (hW : Below w0.heap.size w0 W) => show W.cell? ⟨g + 1, 0, none⟩ = some (.int .i64 1) ∧ W.cell? ⟨g + 1, 1, none⟩ = some (.slice (some ⟨g, 0, none⟩) 1 1) from ⟨(hW.cell (p := ⟨g + 1, 0, none⟩) hgl).trans b0, (hW.cell (p := ⟨g + 1, 1, none⟩) hgl).trans b1⟩)
  have X0 := Lib.hid (X2.out.below BW.out)
  have Y0 := Lib.hid (Y2.out.below BW.out)
  have SX := Lib.hid (fun (W : World) (hW : Below w0.heap.size w0 W) => X0.out.src HNX.out NX.out hW)
  have SY := Lib.hid (fun (W : World) (hW : Below w0.heap.size w0 W) => Y0.out.src HNY.out NY.out hW)
  have BT := Lib.hid (show ∀ b ∈ (([] ++ xs) ++ [flB g]) ++ ys, BtIn w0 b from fun b hb => by
    rcases List.mem_append.1 hb with hb | hb
    · rcases List.mem_append.1 hb with hb | hb
      · exact X0.out.bts b (by simpa using hb)
      · simp at hb; subst hb; exact FB.out
    · exact Y0.out.bts b hb)
  have L1 : ([] : List Bt).length + nx ≤ 30 := by simp; omega
  have L2 : ([] ++ xs).length + 1 ≤ 30 := by simp; have := HNX.out; omega
  have L3 : (([] ++ xs) ++ [flB g]).length + ny ≤ 30 := by simp; have := HNX.out; omega
  obtain ⟨N, hN⟩ : ∃ N, ((([] ++ xs) ++ [flB g]) ++ ys).length = N := ⟨_, rfl⟩
  have L4 : N ≤ 11 := by rw [← hN]; simp; have := HNX.out; have := HNY.out; omega
  have HNN := Lib.hid hN
  clear hN
  have B0 := Lib.hid (bel_trans B2.out BW.out)
  rw [hw0, hg]
  clear hw0 hg hbx X2 Y2 BW B2 FB X0
  go_region_held3 (fun w' => w'.cell? ⟨g + 1, 0, none⟩ = some (.int .i64 1) ∧ w'.cell? ⟨g + 1, 1, none⟩ = some (.slice (some ⟨g, 0, none⟩) 1 1)) (first | exact E0.out _ (fl0 w0).drew.bel | exact E0.out _ F1.bel | exact E0.out _ F2.bel | exact E0.out _ F3.bel | exact E0.out _ (bel_trans F3.bel b4) | exact E0.out _ (F1.alloc _).bel | exact E0.out _ ((fl0 w0).alloc _).drew.bel | go_keep)
    (first
      | (go_at_call 10; (with_reducible refine (rmap10 _ _ _ _ _ _ HNN.out L4 i3).mono ?_); rintro e w4 ⟨v4, q, rfl, hm, hq, hown, b4⟩)
      | ((with_reducible apply step_fl (hgd := rfl) (l' := xs) (v := .slice none 0 0)); (case ho => exact rfl); (case D => first | exact (fl0 w0).drew | exact ((fl0 w0).alloc _).drew); (case hs => exact rfl); (case hx => exact rfl); (case hsrc => first | exact SX.out _ (fl0 w0).drew.bel | exact SX.out _ ((fl0 w0).alloc _).drew.bel); (case hm => exact HNX.out); (case hl => exact L1); (intro v1 w1 F1 K1))
      | ((with_reducible apply step_fl (hgd := rfl) (l' := [flB g])); (case ho => exact rfl); (case D => first | exact F1 | exact F1.alloc _); (case hs => exact rfl); (case hx => exact rfl); (case hsrc => first | exact src_lit #[.int .i64 1, .slice (some ⟨g, 0, none⟩) 1 1] (0, 0) (heap_alloc_new _ _) rfl | exact src_lit #[.int .i64 1, .slice (some ⟨g, 0, none⟩) 1 1] (0, 0) (K1 _ _ (heap_alloc_new _ _) (nilne _)) rfl); (case hm => exact rfl); (case hl => exact L2); (intro v2 w2 F2 K2))
      | ((with_reducible apply step_fl (hgd := rfl) (l' := ys)); (case ho => exact rfl); (case D => exact F2); (case hs => exact rfl); (case hx => exact rfl); (case hsrc => exact SY.out _ F2.bel); (case hm => exact HNY.out); (case hl => exact L3); (intro v3 w3 F3 K3); (obtain ⟨a3, c3, rfl, i3⟩ := F3.insN HNN.out BT.out)))
  all_goals
    obtain ⟨a4, c4, rfl, hv4⟩ := own_valsQ hown
    rw [recs_fl] at hm
    have V4 := Lib.hid hv4
    have M4 := Lib.hid hm
    have Y4 := Lib.hid (Y0.out.below (bel_trans F3.bel b4))
    have B4 := Lib.hid (bel_trans B0.out (bel_trans F3.bel b4))
    obtain ⟨ql, hql⟩ : ∃ ql, q.length = ql := ⟨_, rfl⟩
    rw [hql] at hq ⊢
    have HQL := Lib.hid hql
    clear F1 K1 F2 K2 F3 K3 hm hown hv4 b4 i3 SX SY BT E0 b0 b1 hql Y0 B0 L1 L2 L3 L4
    go_wp2_with fail
    with_reducible refine (awake8 _).mono ?_
    rintro e w5 ⟨rfl, b5⟩
    have V5 := Lib.hid (V4.out.below b5 (Nat.le_refl _))
    have Y5 := Lib.hid (Y4.out.below b5)
    have B5 := Lib.hid (bel_trans B4.out b5)
    clear b5 V4 Y4 B4
    go_wp2_with fail
    with_reducible refine (rmap10 ay ny cy ys now _ HNY.out (by omega) Y5.out).mono ?_
    rintro e w6 ⟨v6, q6, rfl, hm6, hq6, hown6, b6⟩
    obtain rfl := flush_law rfl M4.out hm6
    obtain ⟨a6, c6, rfl, hv6⟩ := own_valsQ hown6
    rw [HQL.out]
    have V6 := Lib.hid hv6
    have V56 := Lib.hid (V5.out.below b6 (Nat.le_refl _))
    have B6 := Lib.hid (bel_trans B5.out b6)
    clear b6 hm6 hown6 hv6 M4 B5 V5 Y5 hq6
    go_wp2_with fail
    with_reducible refine (eq20 a4 a6 c4 c6 ql q _ HQL.out (by omega) V56.out V6.out).mono ?_
    rintro e w7 ⟨rfl, b7⟩
    have B7 := Lib.hid (bel_trans B6.out b7)
    clear b7
    go_wp2_with fail
    go_ret
    exact ⟨rfl, B7.out⟩
set_option maxRecDepth 100000 in
theorem walkReplayFlush (v0 v1 v2 : Value) (w : World) (base : Nat)
    (o0 : Value.okWide Try.prog w .any base 22 v0) (r0 : Reads Try.prog w 22 v0.cells.toList)
    (o1 : Value.okWide Try.prog w .any base 22 v1) (r1 : Reads Try.prog w 22 v1.cells.toList)
    (o2 : Value.okWide Try.prog w .any base 3 v2) (r2 : Reads Try.prog w 3 v2.cells.toList) :
    Calls Try.prog 6 #[v0, v1, v2] w fun e w' => e = .returned (.bool true) ∧ Below w.heap.size w w' := by
  obtain ⟨a, len, cap, rfl, h1, h2⟩ := arg_batches o0 r0
  obtain ⟨b, len', cap', rfl, h3, h4⟩ := arg_batches o1 r1
  obtain ⟨now, rfl, _⟩ := arg_int Try.underlying3 o2 r2
  exact flushlaw a b len cap len' cap' now w h1 h3 h2 h4
set_option maxRecDepth 100000 in
theorem liftedReplayFlush (os : Os) (started : os.Started) (H : Type) (enc : TypeId × Value → H) :
    ReturnsInHanded {} Try.checked os 6 .any (Rows.replayFlushSpec.pre6 enc Try.prog Try.f6 Rows.replayFlushRow.domain false) (Rows.replayFlushSpec.post enc Try.prog Try.f6 false true false false) := by
  refine returnsInHanded_of_change (C := Try.checked) own started (by kernel_rfl) Try.func6
    (ChangeSpec.witness6 (enc := enc) (C := Try.checked) false ⟨#[], #[.slice none 0 0, .slice none 0 0, .int .i64 0], []⟩ 8 (by kernel_rfl) (by kernel_rfl) (by kernel_rfl) (by kernel_rfl)) ?_
  intro W base args ds gs before hval0 hW hcnd _
  have hval : ∀ (j : Nat) t v, Try.f6.params[j]? = some t → args[j]? = some v → Value.okWide Try.prog W .any base t v := hval0
  have hW' := hW
  obtain ⟨p, q, hA0, hV, rfl, hfz, hnd⟩ := hW
  have hA : DataW.TrodAll enc Try.prog W 0 (fun _ => true) true Try.f6.params.toList args.toList ds p := hA0
  rw [Try.params6] at hA hval
  obtain ⟨v0, vs0, d0, ds0, p0, q0, hargs, rfl, rfl, h0, r0⟩ := trodAll_cons hA
  obtain ⟨v1, vs1, d1, ds1, p1, q1, rfl, rfl, rfl, h1, r1⟩ := trodAll_cons r0
  obtain ⟨v2, vs2, d2, ds2, p2, q2, rfl, rfl, rfl, h2, r2⟩ := trodAll_cons r1
  obtain ⟨rfl, rfl, rfl⟩ := trodAll_nil r2
  obtain rfl : args = #[v0, v1, v2] := by cases args; simp_all
  obtain ⟨rfl, rfl⟩ := trodVars_none hV
  have lt0 : ∀ x ∈ p0, x.block < W.heap.size := by obtain ⟨m, hm⟩ := h0; exact DataW.trod_lt m _ _ _ hm
  have lt1 : ∀ x ∈ p1, x.block < W.heap.size := by obtain ⟨m, hm⟩ := h1; exact DataW.trod_lt m _ _ _ hm
  have lt2 : ∀ x ∈ p2, x.block < W.heap.size := by obtain ⟨m, hm⟩ := h2; exact DataW.trod_lt m _ _ _ hm
  clear hA0 hval0
  refine (walkReplayFlush v0 v1 v2 W base (hval 0 22 v0 rfl rfl) (Reads.of h0) (hval 1 22 v1 rfl rfl) (Reads.of h1) (hval 2 3 v2 rfl rfl) (Reads.of h2)).mono fun e W' ⟨he, bel⟩ => ?_
  subst he
  exact ⟨_, rfl, _, _, _, [], _, [], hW', trodAll_mk1 (shut_bool Try.underlying4 _), (trodAll_cons_mk (Below.trod laidOut (by kernel_rfl) (of_decide_eq_true (by kernel_rfl)) h0 bel lt0) (trodAll_cons_mk (Below.trod laidOut (by kernel_rfl) (of_decide_eq_true (by kernel_rfl)) h1 bel lt1) (trodAll_cons_mk (Below.trod laidOut (by kernel_rfl) (of_decide_eq_true (by kernel_rfl)) h2 bel lt2) trodAll_mk0))), rfl, bel.frame _, fun h => by cases h⟩

theorem overReplayFlush : Rows.replayFlushRow.holds Try.pinned (OpenSpec.ofChange Rows.replayFlushSpec) :=
  OpenClaim.holds_of_wide 6 Try.f6 rfl rfl rfl rfl rfl rfl rfl ⟨rfl, rfl, rfl, rfl, rfl⟩ rfl rfl rfl rfl rfl (by kernel_rfl) Try.func6 (by kernel_rfl)
    (of_decide_eq_true (by kernel_rfl)) (by unfold Func.isWrapper; first | (rw [if_pos (by decide +kernel)]; kernel_rfl) | (rw [if_neg (by decide +kernel)]; exact ⟨rfl, rfl⟩))
    (fun os started H enc _ => liftedReplayFlush os started H enc)

/-- The statement. -/
theorem replayFlush_holds : Rows.ReplayFlushSaid := overReplayFlush
#print axioms replayFlush_holds
end Go.Proofs.Ytbfkhghegkiifaa
