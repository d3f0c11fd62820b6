/-
  ChainDrop: whatever the items that were added, Drop of one region leaves the items of all others as they are, so the law returns true; the inputs read behind the call as they did. No conditions.
-/
import Derived.Test.YtdjjmglocdhnhaaChAnd
import Derived.Deep.RegionHeld3
import Derived.Deep.QuietTactic
namespace Go.Proofs.Ytdjjmglocdhnhaa
open Go.RowKit Go.WideShapes Go.ChangeShapes
set_option linter.unusedVariables false
theorem sliceinfo : (Try.prog.info? 29).map (fun i => (i.zero, i.size, i.bytes)) = some (some (.slice none 0 0), 1, 24) := by kernel_rfl
set_option maxRecDepth 100000 in
set_option maxHeartbeats 8000000 in
theorem droplaw (a : Option Addr) (len cap : Nat) (f : Nat → Op17) (sq : Int) (w : World) (hlen : len ≤ 9223372036854775807) (ho : Ops w a len f) (hwf : ∀ i, i < len → (f i).wf) :
    Calls Try.prog 3 #[.slice a len cap, .int .i64 sq] w fun e w' => e = .returned (.bool true) ∧ Below w.heap.size w w' := by
  have HO := Lib.hid ho
  have HWF := Lib.hid hwf
  clear ho hwf
  go_enter Try.func3, Try.ntmps3
  go_wp2_with fail
  with_reducible refine (cho_new _).mono ?_
  rintro e w1 ⟨cb, rfl, c1⟩
  have C1 := Lib.hid c1
  clear c1
  go_wp2_with fail
  go_loopg [6] 30 (fun gk iv wr => ∃ (i : Nat) (L : List It), i ≤ len ∧ i ≤ 30 ∧ iv = .int .i64 i ∧ gk + i = 30 ∧ ChO w wr cb i L ∧ Hid (AscI L) ∧ L.length ≤ i)
  case atStart => exact ⟨0, [], by omega, by omega, rfl, by omega, C1.out, Lib.hid AscI.nil, by simp⟩
  case round =>
    obtain ⟨i, L, hi, hi30, rfl, hgk, co, HA, hL⟩ := hrel
    have CO := Lib.hid co
    have GK := Lib.hid hgk
    clear hgk co C1
    by_cases hlt : i < len ∧ i < 30
    · obtain ⟨hl1, hl2⟩ := hlt
      obtain ⟨b, off, rfl, hb, c0, c1, c2, c3⟩ := (HO.out.below CO.out.bel).at i hl1
      obtain ⟨wf1, wf2, wf3⟩ := HWF.out i hl1
      obtain ⟨o, hfi⟩ : ∃ o, f i = o := ⟨_, rfl⟩
      have KC0 : ∀ W, Below w.heap.size w W → W.cell? ⟨b, off + i * 4 + 1, none⟩ = some (.int .i64 o.seq) ∧ W.cell? ⟨b, off + i * 4 + 2, none⟩ = some (.int .i64 o.off) ∧ W.cell? ⟨b, off + i * 4 + 3, none⟩ = some (.string o.key) := by
        intro W hW
        obtain ⟨b', off', e', _, _, d1, d2, d3⟩ := (HO.out.below hW).at i hl1
        cases e'
        rw [hfi] at d1 d2 d3
        exact ⟨d1, d2, d3⟩
      rw [hfi] at c1 c2 c3 wf3
      clear wf1 wf2 c0 hfi
      obtain ⟨m3, hm3, hb3⟩ := and_three o.seq
      obtain ⟨m15, hm15, hb15⟩ := and_fifteen o.off
      have hii : (i : Int) < len := by omega
      have hii30 : (i : Int) < 30 := by omega
      obtain ⟨key, hkey⟩ : ∃ key, o.key = key := ⟨_, rfl⟩
      rw [hkey] at c3 wf3 KC0
      have KC := Lib.hid KC0
      unfold maxLen at wf3
      obtain ⟨k, hkk⟩ : ∃ k, cutK key = k := ⟨_, rfl⟩
      have hks : k.size ≤ 10 := by rw [← hkk]; exact cutK_size key
      have AD := Lib.hid (cho_add cb i L (m3 : Int) (m15 : Int) k w wr.drew (wf_nat m3 (by omega)) (wf_nat m15 (by omega)) (by unfold maxLen; omega) (by omega) HA.out (CO.out.below (Below.refl _ _).drew))
      clear hkey KC0
      rcases cut_cases key with ⟨h30, hcut⟩ | ⟨h30, hcut⟩
      all_goals
        rw [hcut] at hkk
        first
          | (have hb31 : (10 : Int) ≤ (key.size : Int) := by omega
             have hb37 : min (key.size : Int) 10 = 10 := by omega
             have hb39 : min key.size 10 = 10 := by omega)
          | (have hb31 : ¬ (10 : Int) < (key.size : Int) := by omega
             have hb32 : (if (10 : Int) < (key.size : Int) then (10 : Int) else (key.size : Int)) = (key.size : Int) := if_neg hb31
             have hb33 : decide ((10 : Int) < (key.size : Int)) = false := decide_eq_false hb31
             have hb34 : ¬ (key.size : Int) < 0 := by omega
             have hb35 : ¬ key.size < key.size := by omega
             have hb37 : min (key.size : Int) 10 = (key.size : Int) := by omega
             have hb39 : min key.size 10 = key.size := by omega)
        rw [← hkk] at AD
        clear hcut h30
        have HKK := Lib.hid hkk
        clear hkk
        go_wp2_with fail
        go_region_held3 (fun w' => w'.cell? ⟨b, off + i * 4 + 1, none⟩ = some (.int .i64 o.seq) ∧ w'.cell? ⟨b, off + i * 4 + 2, none⟩ = some (.int .i64 o.off) ∧ w'.cell? ⟨b, off + i * 4 + 3, none⟩ = some (.string key)) (first | exact ⟨c1, c2, c3⟩ | exact hS3)
          ((go_at_call 7; (with_reducible refine AD.out.mono ?_); rintro e3 w3 ⟨rfl, co3⟩; have hS3 := KC.out _ co3.bel))
        all_goals
          rw [HKK.out] at co3
          have CO3 := Lib.hid co3
          clear hS3 co3 AD KC c1 c2 c3
          go_wp2_with fail
          go_roundg (30 - (i + 1))
          case measure => have := GK.out; omega
          case rel => exact ⟨i + 1, adI L (m3 : Int) (m15 : Int) k, by omega, by omega, rfl, by omega, CO3.out, Lib.hid (HA.out.ad _ _ _), by have := adI_length_le L (m3 : Int) (m15 : Int) k; omega⟩
    · have CL := Lib.hid hL
      have C30 := Lib.hid hi30
      have EX := hlt
      have hex : (len : Int) ≤ i ∨ ((i : Int) < len ∧ (30 : Int) ≤ i) := by omega
      clear hlt hL hi30 EX
      obtain ⟨mq, hmq, hbq⟩ := and_three sq
      obtain ⟨i0, hz, hz0, hz1, hz2⟩ := info_parts sliceinfo
      have I1 := Lib.hid hz; have I2 := Lib.hid hz0; have I3 := Lib.hid hz1; have I4 := Lib.hid hz2
      clear hz hz0 hz1 hz2
      rcases hex with h30 | ⟨h31, h30⟩
      all_goals
        go_wp2_with fail
        clear h30
        obtain ⟨wL, hwL⟩ : ∃ wL, wL = wr := ⟨_, rfl⟩
        subst hwL
        go_loopg [7, 8] 4 (fun gk bv kv w2 => ∃ (k : Nat) (v : Value) (vs : List Value), k ≤ 4 ∧ v = bv ∧ kv = .int .i64 k ∧ gk + k = 4 ∧ vs.length = k ∧ Hid (Bef wL w2 L k v vs))
        case atStart => exact ⟨0, _, [], by omega, rfl, rfl, by omega, rfl, Lib.hid ⟨Below.refl _ _, own_nil _ _ _ _, by simp⟩⟩
        case round =>
          obtain ⟨k, v, vs, hk4, rfl, rfl, hgk, hvl, BF⟩ := hrel
          have GK := Lib.hid hgk
          have HVL := Lib.hid hvl
          clear hgk hvl
          by_cases hk : k < 4
          · have hki : (k : Int) < 4 := by omega
            have IT := Lib.hid (cho_items cb i L (k : Int) w wr (wf_nat k (by omega)) (by have := CL.out; have := C30.out; omega) HA.out (CO.out.below BF.out.bel))
            go_wp2_with fail
            with_reducible refine IT.out.mono ?_
            rintro e w2 ⟨x, rfl, hx, hb2⟩
            obtain ⟨a2, n2, rfl, -⟩ := ownsRow_vals hx
            have HX := Lib.hid hx
            have B2 := Lib.hid (BF.out.below hb2)
            have HBS := Lib.hid BF.out.bel.size
            have hws : wL.heap.size ≤ w2.heap.size := B2.out.bel.size
            clear hx hb2 IT
            go_wp2_with (at_builtin; refine Stop.out ?_)
            refine Stop.of (wpList_app rfl _ _ 28 rfl wL.heap.size 29 i0 (.slice none 0 0) 1 24 Try.underlying28 I1.out I2.out I3.out I4.out rfl (by decide) v k vs rfl (B2.out.own.alloc _) _ 1 [.slice a2 (itsI L (k : Int)).length n2] rfl (src_lit #[.slice a2 (itsI L (k : Int)).length n2] (0, 0) (heap_alloc_new _ _) rfl) (by intro u hu; simp only [List.mem_singleton] at hu; subst hu; rfl) (by unfold maxLen; omega) (by omega) (by simp; omega) ?_)
            intro v2 w3 hown hgrow
            have B3 := Lib.hid (Bef.app (wr := w2) B2.out (own_base HX.out HBS.out) HVL.out hown hgrow)
            clear hown hgrow
            go_wp2_with fail
            go_roundg (4 - (k + 1))
            case measure => have := GK.out; omega
            case rel => exact ⟨k + 1, v2, _, by omega, rfl, rfl, by omega, by rw [List.length_append, HVL.out]; rfl, B3⟩
          · obtain rfl : k = 4 := by omega
            obtain ⟨gv, capv, rfl, hgv, hgl⟩ := BF.out.own.form (by omega)
            obtain ⟨R, r1, r2, r3⟩ := CO.out
            have DR := Lib.hid (drop9 cb i R L (mq : Int) wr (wf_nat mq (by omega)) (by have := CL.out; have := C30.out; omega) HA.out (r1.below BF.out.bel))
            have R1 := Lib.hid r1.lt
            have R2 := Lib.hid r2
            have R3 := Lib.hid r3
            clear r1 r2 r3 hgv hgl hk
            go_wp2_with fail
            with_reducible refine DR.out.mono ?_
            rintro e w2 ⟨dv, rfl, -, st⟩
            have C2 := Lib.hid (ChO.step R2.out (bel_trans R3.out BF.out.bel) st)
            obtain ⟨R', -, st2, -⟩ := st
            have BE := Lib.hid (BF.out.fr st2 R1.out)
            clear st2 DR
            go_wp2_with fail
            go_loopg [9, 10, 11] 4 (fun gk kv _ _ w4 => ∃ (k : Nat), k ≤ 4 ∧ kv = .int .i64 k ∧ gk + k = 4 ∧ Hid (Below w2.heap.size w2 w4))
            case atStart => exact ⟨0, by omega, rfl, by omega, Lib.hid (Below.refl _ _)⟩
            case round =>
              obtain ⟨k, hk4, rfl, hgk, HB⟩ := hrel
              have GK2 := Lib.hid hgk
              clear hgk
              by_cases hk : k < 4
              · have hki : (k : Int) < 4 := by omega
                have IT := Lib.hid (cho_items cb i (dropI L (mq : Int)) (k : Int) w wr (wf_nat k (by omega)) (by have := CL.out; have := C30.out; have := dropI_length_le L (mq : Int); omega) (HA.out.drop _) (C2.out.below HB.out))
                go_wp2_with fail
                with_reducible refine IT.out.mono ?_
                rintro e w5 ⟨xv, rfl, hx, hb5⟩
                have B5 := Lib.hid (bel_trans HB.out hb5)
                have B5w := Lib.hid (bel_trans (C2.out.below HB.out).bel hb5)
                clear hb5 IT
                by_cases hkm : k = mq
                · subst hkm
                  rw [itsI_drop_same] at hx
                  obtain ⟨a5, n5, rfl, -⟩ := ownsRow_vals hx
                  clear hx
                  have t1 : ((k : Int) == (k : Int)) = true := by simp
                  go_wp2_with fail
                  go_loopg [11, 97] 0 (fun gk _ jv w6 => jv = .int .i64 0 ∧ w6 = w5)
                  case atStart => exact ⟨rfl, rfl⟩
                  case round =>
                    obtain ⟨rfl, rfl⟩ := hrel
                    go_wp2_with fail
                    go_roundg (4 - (k + 1))
                    case measure => have := GK2.out; omega
                    case rel => exact ⟨k + 1, by omega, rfl, by omega, B5⟩
                · have hki2 : ((k : Int) == (mq : Int)) = false := by simp; omega
                  rw [itsI_drop_other L (show (k : Int) ≠ (mq : Int) by omega)] at hx
                  obtain ⟨n, hn⟩ : ∃ n, (itsI L (k : Int)).length = n := ⟨_, rfl⟩
                  obtain ⟨a5, n5, rfl, V5, -⟩ := ownsRow_vals hx
                  obtain ⟨y, hy⟩ : ∃ y, vs[k]? = some y := ⟨_, List.getElem?_eq_getElem (by have := HVL.out; omega)⟩
                  obtain ⟨a6, n6, rfl, V6, -⟩ := ownsRow_vals (BE.out.2.2 k y hy)
                  have q := (own_fr (S := fun _ => False) BE.out.2.1 (.of_below B5.out) (fun _ _ f => f)).cellAt k (by omega)
                  rw [hy] at q
                  have VA := Lib.hid V5
                  have VB := Lib.hid (V6.below B5.out (Nat.le_refl _))
                  rw [hn] at q
                  rw [hn]
                  have HN := Lib.hid hn
                  have hgb : gv < w5.heap.size := by
                    have := (own_fr (S := fun _ => False) BE.out.2.1 (.of_below B5.out) (fun _ _ f => f)).lt gv rfl
                    omega
                  clear hx V5 V6 hy hn
                  go_wp2_with fail
                  have hn30 : n ≤ 30 := by have h1 := CL.out; have h2 := C30.out; have h3 := HN.out; have h4 : (itsI L (k : Int)).length ≤ L.length := List.length_filter_le _ _; omega
                  have HQ := Lib.hid q
                  have HGB := Lib.hid hgb
                  clear q hgb
                  go_loopg [11, 97] n (fun gk _ jv w6 => ∃ j : Nat, j ≤ n ∧ jv = .int .i64 j ∧ gk + j = n ∧ Hid (Below w5.heap.size w5 w6))
                  case atStart => exact ⟨0, by omega, rfl, by omega, Lib.hid (Below.refl _ _)⟩
                  case round =>
                    obtain ⟨j, hj, rfl, hgk, HB6⟩ := hrel
                    have GK3 := Lib.hid hgk
                    clear hgk
                    by_cases hlt : j < n
                    · obtain ⟨z, hz⟩ : ∃ z, (itsI L (k : Int))[j]? = some z := ⟨_, List.getElem?_eq_getElem (by have := HN.out; omega)⟩
                      obtain ⟨g1, o1, rfl, hg1, p0, p1⟩ := (VA.out.below HB6.out (Nat.le_refl _)).it2 j z hz
                      obtain ⟨g2, o2, rfl, hg2, q0, q1⟩ := (VB.out.below HB6.out (Nat.le_refl _)).it2 j z hz
                      have q := HB6.out.cell (p := ⟨gv, k, none⟩) HGB.out
                      rw [HQ.out] at q
                      have ne := neqIt z.off z.key
                      have hji : (j : Int) < n := by omega
                      clear hz hg1 hg2
                      go_wp2_with fail
                      go_quiet (fail)
                      have HB7 := Lib.hid (below_drewN HB6.out nq)
                      go_wp2_with fail
                      go_roundg (n - (j + 1))
                      case measure => have := GK3.out; omega
                      case rel => exact ⟨j + 1, by omega, by go_num, by omega, HB7⟩
                    · obtain rfl : j = n := by omega
                      have B8 := Lib.hid (bel_trans B5.out HB6.out)
                      go_wp2_with fail
                      go_roundg (4 - (k + 1))
                      case measure => have := GK2.out; omega
                      case rel => exact ⟨k + 1, by omega, rfl, by omega, B8⟩
              · obtain rfl : k = 4 := by omega
                go_wp2_with fail
                with_reducible refine (awake10 _).mono ?_
                rintro e w7 ⟨rfl, hb7⟩
                have B7 := Lib.hid (bel_trans (bel_trans C2.out.bel HB.out) hb7)
                clear hb7
                go_wp2_with fail
                go_ret
                exact ⟨rfl, B7.out⟩
set_option maxRecDepth 100000 in
theorem walkChainDrop (v0 v1 : Value) (w : World) (base : Nat)
    (o0 : Value.okWide Try.prog w .any base 22 v0) (r0 : Reads Try.prog w 22 v0.cells.toList)
    (o1 : Value.okWide Try.prog w .any base 3 v1) (r1 : Reads Try.prog w 3 v1.cells.toList) :
    Calls Try.prog 3 #[v0, v1] w fun e w' => e = .returned (.bool true) ∧ Below w.heap.size w w' := by
  obtain ⟨a, len, cap, f, rfl, hlen, ho, hwf⟩ := arg_ops o0 r0
  obtain ⟨sq, rfl, h1⟩ := arg_int Try.underlying3 o1 r1
  exact droplaw a len cap f sq w hlen ho hwf
set_option maxRecDepth 100000 in
theorem liftedChainDrop (os : Os) (started : os.Started) (H : Type) (enc : TypeId × Value → H) :
    ReturnsInHanded {} Try.checked os 3 .any (Rows.chainDropSpec.pre6 enc Try.prog Try.f3 Rows.chainDropRow.domain false) (Rows.chainDropSpec.post enc Try.prog Try.f3 false true false false) := by
  refine returnsInHanded_of_change (C := Try.checked) own started (by kernel_rfl) Try.func3
    (ChangeSpec.witness6 (enc := enc) (C := Try.checked) false ⟨#[], #[.slice none 0 0, .int .i64 0], []⟩ 8 (by kernel_rfl) (by kernel_rfl) (by kernel_rfl) (by kernel_rfl)) ?_
  intro W base args ds gs before hval0 hW hcnd _
  have hval : ∀ (j : Nat) t v, Try.f3.params[j]? = some t → args[j]? = some v → Value.okWide Try.prog W .any base t v := hval0
  have hW' := hW
  obtain ⟨p, q, hA0, hV, rfl, hfz, hnd⟩ := hW
  have hA : DataW.TrodAll enc Try.prog W 0 (fun _ => true) true Try.f3.params.toList args.toList ds p := hA0
  rw [Try.params3] at hA hval
  obtain ⟨v0, vs0, d0, ds0, p0, q0, hargs, rfl, rfl, h0, r0⟩ := trodAll_cons hA
  obtain ⟨v1, vs1, d1, ds1, p1, q1, rfl, rfl, rfl, h1, r1⟩ := trodAll_cons r0
  obtain ⟨rfl, rfl, rfl⟩ := trodAll_nil r1
  obtain rfl : args = #[v0, v1] := by cases args; simp_all
  obtain ⟨rfl, rfl⟩ := trodVars_none hV
  have lt0 : ∀ x ∈ p0, x.block < W.heap.size := by obtain ⟨m, hm⟩ := h0; exact DataW.trod_lt m _ _ _ hm
  have lt1 : ∀ x ∈ p1, x.block < W.heap.size := by obtain ⟨m, hm⟩ := h1; exact DataW.trod_lt m _ _ _ hm
  clear hA0 hval0
  refine (walkChainDrop v0 v1 W base (hval 0 22 v0 rfl rfl) (Reads.of h0) (hval 1 3 v1 rfl rfl) (Reads.of h1)).mono fun e W' ⟨he, bel⟩ => ?_
  subst he
  exact ⟨_, rfl, _, _, _, [], _, [], hW', trodAll_mk1 (shut_bool Try.underlying4 _), (trodAll_cons_mk (Below.trod laidOut (by kernel_rfl) (of_decide_eq_true (by kernel_rfl)) h0 bel lt0) (trodAll_cons_mk (Below.trod laidOut (by kernel_rfl) (of_decide_eq_true (by kernel_rfl)) h1 bel lt1) trodAll_mk0)), rfl, bel.frame _, fun h => by cases h⟩

theorem overChainDrop : Rows.chainDropRow.holds Try.pinned (OpenSpec.ofChange Rows.chainDropSpec) :=
  OpenClaim.holds_of_wide 3 Try.f3 rfl rfl rfl rfl rfl rfl rfl ⟨rfl, rfl, rfl, rfl, rfl⟩ rfl rfl rfl rfl rfl (by kernel_rfl) Try.func3 (by kernel_rfl)
    (of_decide_eq_true (by kernel_rfl)) (by unfold Func.isWrapper; first | (rw [if_pos (by decide +kernel)]; kernel_rfl) | (rw [if_neg (by decide +kernel)]; exact ⟨rfl, rfl⟩))
    (fun os started H enc _ => liftedChainDrop os started H enc)

/-- The statement. -/
theorem chainDrop_holds : Rows.ChainDropSaid := overChainDrop
#print axioms chainDrop_holds
end Go.Proofs.Ytdjjmglocdhnhaa
