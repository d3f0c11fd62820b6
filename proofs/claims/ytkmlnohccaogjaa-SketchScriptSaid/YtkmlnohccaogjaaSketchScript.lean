/-
  SketchScript: any sequence of touches, each repeated up to 200 times, agrees with the reference: the touches and the estimates of all hashes. No condition.
-/
import Derived.Test.YtkmlnohccaogjaaLaw19
import Derived.Deep.DeepCutAuto
namespace Go.Proofs.Ytkmlnohccaogjaa
open Go.RowKit Go.ChangeShapes Go.WideShapes Go.ChangeAt
set_option linter.unusedVariables false
def skR : Array Value := (Array.replicate 256 (Value.int .i64 0)).push (.int .i64 0)
theorem zero_rk (w : World) : (zeroValue 30).run Try.prog w = .ok (.agg skR) w := by kernel_rfl
theorem sk_newR (w : World) (b : Nat) (hb : b = w.heap.size) (t : TypeId) : Sk .i64 (w.alloc (.cells skR t)) b (fun _ => 0) 0 := by
  subst hb
  refine ⟨fun i hi => ?_, ?_, fun i => frozen_new _ _ _ _⟩
  · rw [World.cell?_alloc_at _ _ _ _ rfl]; unfold skR; rw [Array.getElem?_push, if_neg (by simp; omega)]; simp [hi]
  · rw [World.cell?_alloc_at _ _ _ _ rfl]; unfold skR; rw [Array.getElem?_push, if_pos (by simp)]; rfl
/-- both sketches are in one state -/
def Both (w wr : World) (bm : Nat) : Prop :=
  ∃ c n, (∀ j, c j ≤ 15) ∧ n < 640 ∧ Sk .u8 wr w.heap.size c n ∧ Sk .i64 wr bm c n ∧ Below w.heap.size w wr
theorem Both.drewN {w wr : World} {bm : Nat} (h : Both w wr bm) (m : Nat) : Both w (wr.drewN m) bm := by
  obtain ⟨c, n, h1, h2, h3, h4, h5⟩ := h
  exact ⟨c, n, h1, h2, h3.drewN m, h4.drewN m, below_drewN h5 m⟩
theorem times_rng (x : Int) : wrap64 (x.tmod 200 + 200) = x.tmod 200 + 200 ∧ 0 ≤ (x.tmod 200 + 200).tmod 200 ∧ (x.tmod 200 + 200).tmod 200 < 200 := by
  have a := Int.lt_tmod_of_pos x (b := 200) (by omega)
  have b := Int.tmod_lt_of_pos x (b := 200) (by omega)
  exact ⟨IntWalk.wrap64_in _ ⟨by omega, by omega⟩, Int.tmod_nonneg _ (by omega), Int.tmod_lt_of_pos _ (by omega)⟩
set_option maxRecDepth 100000 in
set_option maxHeartbeats 4000000 in
theorem scriptlaw (a : Option Addr) (len cap : Nat) (zs : List Int) (a2 : Option Addr) (len2 cap2 : Nat) (ts : List Int) (w : World) (hl : len ≤ 9223372036854775807) (hl2 : len2 ≤ 9223372036854775807)
    (he : Elems .u64 w a len zs) (hz : ∀ i, i < len → 0 ≤ zs[i]?.getD 0 ∧ zs[i]?.getD 0 < 18446744073709551616) (he2 : Elems .i64 w a2 len2 ts) :
    Calls Try.prog 3 #[.slice a len cap, .slice a2 len2 cap2] w fun e w' => e = .returned (.bool true) ∧ Below w.heap.size w w' := by
  have HE := Lib.hid he
  have HZ := Lib.hid hz
  have HE2 := Lib.hid he2
  have hzr := zero_rk
  clear he hz he2
  go_enter Try.func3, Try.ntmps3
  go_wp2_with fail
  with_reducible refine (new6 _).mono ?_
  rintro e w1 ⟨rfl, k1, g1⟩
  have K1 := Lib.hid k1
  have B1 := Lib.hid ((Below.refl w.heap.size w).grown g1 (Nat.le_refl _) (fun k hk => by cases hk))
  have lt1 := k1.lt
  clear k1 g1
  go_wp2_with fail
  clear hzr
  have BO := Lib.hid (show Both w (w1.alloc (.cells skR 30)) w1.heap.size from
    ⟨_, _, fun _ => Nat.zero_le _, by omega, K1.out.below ((Below.refl _ _).alloc (Nat.le_refl _) _), sk_newR w1 _ rfl _, B1.out.alloc B1.out.size _⟩)
  obtain ⟨bm, hbm⟩ : ∃ bm, w1.heap.size = bm := ⟨_, rfl⟩
  have hbm' : w.heap.size < bm := by omega
  obtain ⟨w2, hw2⟩ : ∃ w2, w1.alloc (.cells skR 30) = w2 := ⟨_, rfl⟩
  have BO2 := Lib.hid (show Both w w2 bm from hw2 ▸ hbm ▸ BO.out)
  rw [hw2, hbm]
  clear BO K1 B1 hw2 hbm lt1
  go_loopg [7, 8, 9, 10] len (fun gk i _ _ _ wr => ∃ k : Nat, k ≤ len ∧ k ≤ 10 ∧ gk + k = len ∧ i = .int .i64 k ∧ Both w wr bm)
  case atStart => exact ⟨0, Nat.zero_le _, Nat.zero_le _, rfl, rfl, BO2.out⟩
  case round =>
    obtain ⟨k, hk, hk6, hgk, rfl, hbo⟩ := hrel
    have BO := Lib.hid hbo
    have HGK := Lib.hid hgk
    clear hbo BO2 hgk
    by_cases hlt : k < len ∧ k < 10
    · obtain ⟨hlt, hlt6⟩ := hlt
      obtain ⟨x, hx⟩ : ∃ x, zs[k]?.getD 0 = x := ⟨_, rfl⟩
      have hx0 := HZ.out k hlt
      obtain ⟨b0, o0, rfl, hb0, hcx⟩ := HE.out k hlt
      rw [hx] at hx0 hcx
      clear hx
      have HCX := Lib.hid hcx
      clear hcx
      go_upto_if 27 with fail
      go_cut [8] (fun s wx => ∃ n : Nat, n ≤ 200 ∧ s = .int .i64 (n : Int) ∧ wr = wx)
      case first =>
        by_cases h2 : k < len2
        · obtain ⟨b2, o2, rfl, hb2, hcy⟩ := HE2.out k h2
          have hcell : wr.cell? ⟨b2, o2 + k, none⟩ = some (.int .i64 (ts[k]?.getD 0)) := by
            obtain ⟨_, _, _, _, _, _, hb⟩ := BO.out
            rw [hb.cell hb2]; exact hcy
          obtain ⟨t1, t2, t3⟩ := times_rng (ts[k]?.getD 0)
          generalize ts[k]?.getD 0 = y at *
          have T1 := Lib.hid t1
          clear t1 hcy
          go_wp2_with fail
          go_meet
          exact ⟨((y.tmod 200 + 200).tmod 200).toNat, by omega, by rw [Int.toNat_of_nonneg t2, T1.out], rfl⟩
        · go_wp2_with fail
          go_meet
          exact ⟨1, by omega, rfl, rfl⟩
      case rest =>
        obtain ⟨n, hn, rfl, rfl⟩ := hcut
        go_wp2_with fail
        go_loopg [9] n (fun gj j wq => ∃ q : Nat, q ≤ n ∧ gj + q = n ∧ j = .int .i64 q ∧ Both w wq bm)
        case atStart => exact ⟨0, Nat.zero_le _, rfl, rfl, BO.out⟩
        case round =>
          obtain ⟨q, hq, hgj, rfl, hbo⟩ := hrel
          have BQ := Lib.hid hbo
          have HGJ := Lib.hid hgj
          clear hbo hgj
          by_cases hqn : q < n
          · obtain ⟨c, m, c15, m640, ks, km, hb⟩ := BQ.out
            have C15 := Lib.hid c15
            have KS := Lib.hid ks
            have KM := Lib.hid km
            have B := Lib.hid hb
            have hcell : wr.cell? ⟨b0, o0 + k, none⟩ = some (.int .u64 x) := by rw [hb.cell hb0]; exact HCX.out
            clear c15 ks km hb
            go_wp2_with fail
            with_reducible refine (touch7 _ _ _ _ _ hx0.1 hx0.2 KS.out C15.out m640).mono ?_
            rintro e w3 ⟨he, k3, g3⟩
            unfold NoRes at he
            subst he
            have K3 := Lib.hid k3
            have KM3 := Lib.hid (KM.out.grown g3 (by simp; omega))
            have B3 := Lib.hid (B.out.grown g3 B.out.size (fun k hk => by cases hk; exact Nat.le_refl _))
            clear k3 g3 hcell
            have hcell : w3.cell? ⟨b0, o0 + k, none⟩ = some (.int .u64 x) := by rw [B3.out.cell hb0]; exact HCX.out
            go_wp2_with fail
            with_reducible refine (reftouch8 _ _ _ _ _ hx0.1 hx0.2 KM3.out C15.out m640).mono ?_
            rintro e w4 ⟨he, k4, g4⟩
            unfold NoRes at he
            subst he
            have BN := Lib.hid (show Both w w4 bm from ⟨_, _, touchC_le _ _ _ C15.out, touchN_lt _ m640, K3.out.grown g4 (by simp; omega), k4, B3.out.grown g4 B3.out.size (fun k hk => by cases hk; omega)⟩)
            clear k4 g4 hcell
            go_wp2_with fail
            go_roundg (n - (q + 1))
            case measure => have := HGJ.out; omega
            case rel => exact ⟨q + 1, by omega, by omega, by go_num, BN.out⟩
          · obtain rfl : q = n := by omega
            obtain ⟨c, m, c15, m640, ks, km, hb⟩ := BQ.out
            have HT := Lib.hid (touches9 _ _ _ _ ks)
            have hN := km.2.1
            have HTT := Lib.hid (fun j => touches9 _ _ _ _ (ks.drewN j))
            clear c15 ks km hb
            go_wp2_with fail
            go_quiet ((go_at_call 9; exact Calls.quiet_of_same ((HTT.out _).mono fun e w' hw => ⟨hw.1, hw.2.symm⟩)))
            go_wp2_with fail
            clear hN
            have BQ2 := Lib.hid (BQ.out.drewN nq)
            clear HT HTT BQ
            generalize wr.drewN nq = w5 at *
            go_loopg [10] len (fun gj j wq => ∃ p : Nat, p ≤ len ∧ gj + p = len ∧ j = .int .i64 p ∧ Both w wq bm)
            case atStart => exact ⟨0, Nat.zero_le _, rfl, rfl, BQ2.out⟩
            case round =>
              obtain ⟨p, hp, hgj, rfl, hbo⟩ := hrel
              have BP := Lib.hid hbo
              have HGJ := Lib.hid hgj
              clear hbo hgj
              by_cases hpl : p < len ∧ p < 10
              · obtain ⟨hpl, hp10⟩ := hpl
                obtain ⟨y, hy⟩ : ∃ y, zs[p]?.getD 0 = y := ⟨_, rfl⟩
                have hy0 := HZ.out p hpl
                obtain ⟨b0', o0', ha', _, hcy⟩ := HE.out p hpl
                simp only [Option.some.injEq, Addr.mk.injEq, and_true] at ha'
                obtain ⟨rfl, rfl⟩ := ha'
                rw [hy] at hy0 hcy
                obtain ⟨c, m, c15, m640, ks, km, hb⟩ := BP.out
                have hcell : wr.cell? ⟨b0, o0 + p, none⟩ = some (.int .u64 y) := by rw [hb.cell hb0]; exact hcy
                have H1 := Lib.hid (fun j => est10 _ _ _ _ _ hy0.1 hy0.2 (ks.drewN j) c15)
                have H2 := Lib.hid (fun j => refest11 _ _ _ _ _ hy0.1 hy0.2 (km.drewN j) c15)
                have hpi : (p : Int) < len := by omega
                clear c15 ks km hb hy hcy
                go_wp2_with fail
                go_quiet ((first | (go_at_call 10; exact Calls.quiet_of (H1.out _)) | (go_at_call 11; exact Calls.quiet_of (H2.out _))))
                go_wp2_with fail
                go_roundg (len - (p + 1))
                case measure => have := HGJ.out; omega
                case rel => exact ⟨p + 1, by omega, by omega, by go_num, BP.out.drewN nq⟩
              · by_cases hpl2 : p < len
                · have h10 : 10 ≤ p := by omega
                  clear hpl
                  go_wp2_with fail
                  go_roundg (len - (k + 1))
                  case measure => have := HGK.out; omega
                  case rel => exact ⟨k + 1, by omega, by omega, by omega, by go_num, BP.out⟩
                · have h10 : len ≤ p := by omega
                  clear hpl
                  go_wp2_with fail
                  go_roundg (len - (k + 1))
                  case measure => have := HGK.out; omega
                  case rel => exact ⟨k + 1, by omega, by omega, by omega, by go_num, BP.out⟩
    · obtain ⟨_, _, _, _, _, _, hb⟩ := BO.out
      have B := Lib.hid hb
      clear hb
      by_cases hkl : k < len
      · have h10 : 10 ≤ k := by omega
        clear hlt
        go_wp2_with fail
        with_reducible refine (awake19 _).mono ?_
        rintro e w6 ⟨rfl, hb6⟩
        have B6 := Lib.hid (B.out.trans (hb6.mono B.out.size))
        clear hb6
        go_wp2_with fail
        go_ret
        exact ⟨rfl, B6.out⟩
      · have h10 : len ≤ k := by omega
        clear hlt
        go_wp2_with fail
        with_reducible refine (awake19 _).mono ?_
        rintro e w6 ⟨rfl, hb6⟩
        have B6 := Lib.hid (B.out.trans (hb6.mono B.out.size))
        clear hb6
        go_wp2_with fail
        go_ret
        exact ⟨rfl, B6.out⟩
theorem u64_bd {n : Int} (h : (Lit.int .u64 n).wf = true) : 0 ≤ n ∧ n < 18446744073709551616 := by
  have := bounds_u64 h
  omega
theorem walkSketchScript (v0 v1 : Value) (w : World) (base : Nat)
    (o0 : Value.okWide Try.prog w .any base 22 v0) (r0 : Reads Try.prog w 22 v0.cells.toList)
    (o1 : Value.okWide Try.prog w .any base 23 v1) (r1 : Reads Try.prog w 23 v1.cells.toList) :
    Calls Try.prog 3 #[v0, v1] w fun e w' => e = .returned (.bool true) ∧ Below w.heap.size w w' := by
  obtain ⟨a, len, cap, zs, rfl, h1, h2, _, h3, h4⟩ := arg_ints Try.underlying22 Try.underlying32 (by kernel_rfl) o0 r0
  obtain ⟨a2, len2, cap2, ts, rfl, g1, g2, _, g3, _⟩ := arg_ints Try.underlying23 Try.underlying3 (by kernel_rfl) o1 r1
  exact scriptlaw a len cap zs a2 len2 cap2 ts w (by omega) (by omega) h3 (fun i hi => u64_bd (h4 i hi)) g3
set_option maxRecDepth 100000 in
theorem liftedSketchScript (os : Os) (started : os.Started) (H : Type) (enc : TypeId × Value → H) :
    ReturnsInHanded {} Try.checked os 3 .any (Rows.sketchScriptSpec.pre6 enc Try.prog Try.f3 Rows.sketchScriptRow.domain false) (Rows.sketchScriptSpec.post enc Try.prog Try.f3 false true false false) := by
  refine returnsInHanded_of_change (C := Try.checked) own started (by kernel_rfl) Try.func3
    (ChangeSpec.witness6 (enc := enc) (C := Try.checked) false ⟨#[], #[.slice none 0 0, .slice none 0 0], []⟩ 8 (by kernel_rfl) (by kernel_rfl) (by kernel_rfl) (by kernel_rfl)) ?_
  intro W base args ds gs before hval0 hW hcnd _
  have hval : ∀ (j : Nat) t v, Try.f3.params[j]? = some t → args[j]? = some v → Value.okWide Try.prog W .any base t v := hval0
  have hW' := hW
  obtain ⟨p, q, hA0, hV, rfl, hfz, hnd⟩ := hW
  have hA : DataW.TrodAll enc Try.prog W 0 (fun _ => true) true Try.f3.params.toList args.toList ds p := hA0
  rw [Try.params3] at hA hval
  obtain ⟨v0, vs0, d0, ds0, p0, q0, hargs, rfl, rfl, h0, r0⟩ := trodAll_cons hA
  obtain ⟨v1, vs1, d1, ds1, p1, q1, rfl, rfl, rfl, h1, r1⟩ := trodAll_cons r0
  obtain ⟨rfl, rfl, rfl⟩ := trodAll_nil r1
  obtain rfl : args = #[v0, v1] := by cases args; simp_all
  obtain ⟨rfl, rfl⟩ := trodVars_none hV
  have lt0 : ∀ x ∈ p0, x.block < W.heap.size := by obtain ⟨m, hm⟩ := h0; exact DataW.trod_lt m _ _ _ hm
  have lt1 : ∀ x ∈ p1, x.block < W.heap.size := by obtain ⟨m, hm⟩ := h1; exact DataW.trod_lt m _ _ _ hm
  clear hA0 hval0
  refine (walkSketchScript v0 v1 W base (hval 0 22 v0 rfl rfl) (Reads.of h0) (hval 1 23 v1 rfl rfl) (Reads.of h1)).mono fun e W' ⟨he, bel⟩ => ?_
  subst he
  exact ⟨_, rfl, _, _, _, [], _, [], hW', trodAll_mk1 (shut_bool Try.underlying4 _), (trodAll_cons_mk (Below.trod laidOut (by kernel_rfl) (of_decide_eq_true (by kernel_rfl)) h0 bel lt0) (trodAll_cons_mk (Below.trod laidOut (by kernel_rfl) (of_decide_eq_true (by kernel_rfl)) h1 bel lt1) trodAll_mk0)), rfl, bel.frame _, fun h => by cases h⟩

theorem overSketchScript : Rows.sketchScriptRow.holds Try.pinned (OpenSpec.ofChange Rows.sketchScriptSpec) :=
  OpenClaim.holds_of_wide 3 Try.f3 rfl rfl rfl rfl rfl rfl rfl ⟨rfl, rfl, rfl, rfl, rfl⟩ rfl rfl rfl rfl rfl (by kernel_rfl) Try.func3 (by kernel_rfl)
    (of_decide_eq_true (by kernel_rfl)) (by unfold Func.isWrapper; first | (rw [if_pos (by decide +kernel)]; kernel_rfl) | (rw [if_neg (by decide +kernel)]; exact ⟨rfl, rfl⟩))
    (fun os started H enc _ => liftedSketchScript os started H enc)

/-- The statement. -/
theorem sketchScript_holds : Rows.SketchScriptSaid := overSketchScript
#print axioms sketchScript_holds
end Go.Proofs.Ytkmlnohccaogjaa
