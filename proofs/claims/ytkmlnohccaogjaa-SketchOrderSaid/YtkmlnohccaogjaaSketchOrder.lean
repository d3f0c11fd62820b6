/-
  SketchOrder: as long as there were fewer than 640 touches, their order does not matter. No condition.
-/
import Derived.Test.YtkmlnohccaogjaaLaw19
import Derived.Deep.DeepCutAuto
namespace Go.Proofs.Ytkmlnohccaogjaa
open Go.RowKit Go.ChangeShapes Go.WideShapes Go.ChangeAt
set_option linter.unusedVariables false
set_option maxRecDepth 100000 in
set_option maxHeartbeats 2000000 in
theorem orderlaw (a : Option Addr) (len cap : Nat) (zs : List Int) (h : Int) (w : World) (hl : len ≤ 9223372036854775807) (he : Elems .u64 w a len zs) (hz : ∀ i, i < len → 0 ≤ zs[i]?.getD 0 ∧ zs[i]?.getD 0 < 18446744073709551616) (h0 : 0 ≤ h) (h1 : h < 18446744073709551616) :
    Calls Try.prog 5 #[.slice a len cap, .int .u64 h] w fun e w' => e = .returned (.bool true) ∧ Below w.heap.size w w' := by
  have HE := Lib.hid he
  have HZ := Lib.hid hz
  clear he hz
  go_enter Try.func5, Try.ntmps5
  go_wp2_with fail
  with_reducible refine (new6 _).mono ?_
  rintro e w1 ⟨rfl, k1, g1⟩
  have K1 := Lib.hid k1
  have B1 := Lib.hid ((Below.refl w.heap.size w).grown g1 (Nat.le_refl _) (fun k hk => by cases hk))
  have lt1 := k1.lt
  clear k1 g1
  go_wp2_with fail
  with_reducible refine (new6 _).mono ?_
  rintro e w2 ⟨rfl, k2, g2⟩
  have K1' := Lib.hid (K1.out.grown g2 (by simp))
  have K2 := Lib.hid k2
  have B2 := Lib.hid (B1.out.grown g2 B1.out.size (fun k hk => by cases hk))
  have hbs := B1.out.size
  clear k2 g2 K1
  go_upto_region 2 with fail
  go_cut [7] (fun s wx => ∃ n : Nat, s = .int .i64 (n : Int) ∧ n ≤ len ∧ n ≤ 100 ∧ w2 = wx)
  case first =>
    go_wp2_with fail
    all_goals go_meet
    · exact ⟨100, rfl, by omega, by omega, rfl⟩
    · exact ⟨len, rfl, by omega, by omega, rfl⟩
  case rest =>
    obtain ⟨n, rfl, hn1, hn2, rfl⟩ := hcut
    obtain ⟨f, hf⟩ : ∃ f : Nat → Int, f = fun j => zs[j]?.getD 0 := ⟨_, rfl⟩
    obtain ⟨g, hg⟩ : ∃ g : Nat → Int, g = fun j => f (n - 1 - j) := ⟨_, rfl⟩
    have HF := Lib.hid hf
    have HG := Lib.hid hg
    clear hf hg
    go_wp2_with fail
    go_loopw [8] (fun i wr => ∃ k : Nat, k ≤ n ∧ i = .int .i64 k ∧ Sk .u8 wr w.heap.size (runS f k).1 (runS f k).2 ∧ Sk .u8 wr w1.heap.size (runS g k).1 (runS g k).2 ∧ Below w.heap.size w wr) (fun i _ => n - (intOf i).toNat)
    case atStart => exact ⟨0, Nat.zero_le _, rfl, K1'.out, K2.out, B2.out⟩
    case round =>
      obtain ⟨k, hk, rfl, ka, kb, hb⟩ := hrel
      have KA := Lib.hid ka
      have KB := Lib.hid kb
      have B := Lib.hid hb
      clear ka kb hb
      have oka := runS_ok f k
      have okb := runS_ok g k
      have OKA := Lib.hid oka
      have OKB := Lib.hid okb
      clear oka okb
      by_cases hlt : k < n
      · obtain ⟨x, hx⟩ : ∃ x, f k = x := ⟨_, rfl⟩
        obtain ⟨y, hy⟩ : ∃ y, g k = y := ⟨_, rfl⟩
        have hx0 := HZ.out k (by omega)
        have hy0 := HZ.out (n - 1 - k) (by omega)
        obtain ⟨b0, o0, rfl, hb0, hcx⟩ := HE.out k (by omega)
        obtain ⟨b0', o0', ha', _, hcy⟩ := HE.out (n - 1 - k) (by omega)
        simp only [Option.some.injEq, Addr.mk.injEq, and_true] at ha'
        obtain ⟨rfl, rfl⟩ := ha'
        rw [show zs[k]?.getD 0 = x from by rw [← hx, HF.out]] at hx0 hcx
        rw [show zs[n - 1 - k]?.getD 0 = y from by rw [← hy, HG.out, HF.out]] at hy0 hcy
        have hcell : wr.cell? ⟨b0, o0 + k, none⟩ = some (.int .u64 x) := by rw [B.out.cell hb0]; exact hcx
        have e1 : runS f (k + 1) = (touchC (runS f k).1 (runS f k).2 x, touchN (runS f k).2) := by rw [← hx]; rfl
        have e2 : runS g (k + 1) = (touchC (runS g k).1 (runS g k).2 y, touchN (runS g k).2) := by rw [← hy]; rfl
        have E1 := Lib.hid e1
        have E2 := Lib.hid e2
        have HCY := Lib.hid hcy
        have HB0 := Lib.hid hb0
        clear e1 e2 hx hy hcx hcy hb0
        go_wp2_with fail
        with_reducible refine (touch7 _ _ _ _ _ hx0.1 hx0.2 KA.out OKA.out.1 OKA.out.2).mono ?_
        rintro e w3 ⟨he, k3, g3⟩
        unfold NoRes at he
        subst he
        have K3 := Lib.hid k3
        have KB3 := Lib.hid (KB.out.grown g3 (by simp; omega))
        have B3 := Lib.hid (B.out.grown g3 B.out.size (fun k hk => by cases hk; exact Nat.le_refl _))
        clear k3 g3 hcell
        have hcell : w3.cell? ⟨b0, o0 + (n - 1 - k), none⟩ = some (.int .u64 y) := by rw [B3.out.cell HB0.out]; exact HCY.out
        go_wp2_with fail
        with_reducible refine (touch7 _ _ _ _ _ hy0.1 hy0.2 KB3.out OKB.out.1 OKB.out.2).mono ?_
        rintro e w4 ⟨he, k4, g4⟩
        unfold NoRes at he
        subst he
        have K4 := Lib.hid k4
        have KA4 := Lib.hid (K3.out.grown g4 (by simp; omega))
        have B4 := Lib.hid (B3.out.grown g4 B3.out.size (fun k hk => by cases hk; omega))
        clear k4 g4 hcell
        go_wp2_with fail
        go_roundw
        case rel => exact ⟨k + 1, by omega, by go_num, by rw [E1.out]; exact KA4.out, by rw [E2.out]; exact K4.out, B4.out⟩
        case measure => simp [intOf]; omega
      · obtain rfl : k = n := by omega
        have hest : estD (runS f k).1 h 4 = estD (runS g k).1 h 4 := by rw [HG.out]; exact run_rev f k (by omega) h
        have hn1 : (runS f k).2 = k := (runS_count f k (by omega)).1
        have hn2 : (runS g k).2 = k := (runS_count g k (by omega)).1
        rw [hn1] at KA
        rw [hn2] at KB
        have HEST := Lib.hid hest
        clear hest hn1 hn2
        go_wp2_with fail
        with_reducible refine (awake19 _).mono ?_
        rintro e w5 ⟨rfl, hb5⟩
        have KA5 := Lib.hid (KA.out.below hb5)
        have KB5 := Lib.hid (KB.out.below hb5)
        have B5 := Lib.hid (B.out.trans (hb5.mono B.out.size))
        clear hb5
        go_wp2_with fail
        with_reducible refine (est10 _ _ _ _ _ h0 h1 KA5.out OKA.out.1).mono ?_
        rintro e w6 ⟨rfl, m6, rfl⟩
        go_wp2_with fail
        with_reducible refine (est10 _ _ _ _ _ h0 h1 (KB5.out.drewN m6) OKB.out.1).mono ?_
        rintro e w7 ⟨rfl, m7, rfl⟩
        rw [HEST.out]
        go_wp2_with fail
        with_reducible refine (touches9 _ _ _ _ (KA5.out.drewN (m6 + m7))).mono ?_
        rintro e w8 ⟨rfl, rfl⟩
        go_wp2_with fail
        with_reducible refine (touches9 _ _ _ _ (KB5.out.drewN (m6 + m7))).mono ?_
        rintro e w8 ⟨rfl, rfl⟩
        go_wp2_with fail
        go_ret
        exact ⟨rfl, below_drewN B5.out _⟩
theorem u64_bd {n : Int} (h : (Lit.int .u64 n).wf = true) : 0 ≤ n ∧ n < 18446744073709551616 := by
  have := bounds_u64 h
  omega
theorem walkSketchOrder (v0 v1 : Value) (w : World) (base : Nat)
    (o0 : Value.okWide Try.prog w .any base 22 v0) (r0 : Reads Try.prog w 22 v0.cells.toList)
    (o1 : Value.okWide Try.prog w .any base 32 v1) (r1 : Reads Try.prog w 32 v1.cells.toList) :
    Calls Try.prog 5 #[v0, v1] w fun e w' => e = .returned (.bool true) ∧ Below w.heap.size w w' := by
  obtain ⟨a, len, cap, zs, rfl, h1, h2, _, h3, h4⟩ := arg_ints Try.underlying22 Try.underlying32 (by kernel_rfl) o0 r0
  obtain ⟨h, rfl, hw⟩ := arg_int Try.underlying32 o1 r1
  exact orderlaw a len cap zs h w (by omega) h3 (fun i hi => u64_bd (h4 i hi)) (u64_bd hw).1 (u64_bd hw).2
set_option maxRecDepth 100000 in
theorem liftedSketchOrder (os : Os) (started : os.Started) (H : Type) (enc : TypeId × Value → H) :
    ReturnsInHanded {} Try.checked os 5 .any (Rows.sketchOrderSpec.pre6 enc Try.prog Try.f5 Rows.sketchOrderRow.domain false) (Rows.sketchOrderSpec.post enc Try.prog Try.f5 false true false false) := by
  refine returnsInHanded_of_change (C := Try.checked) own started (by kernel_rfl) Try.func5
    (ChangeSpec.witness6 (enc := enc) (C := Try.checked) false ⟨#[], #[.slice none 0 0, .int .u64 0], []⟩ 8 (by kernel_rfl) (by kernel_rfl) (by kernel_rfl) (by kernel_rfl)) ?_
  intro W base args ds gs before hval0 hW hcnd _
  have hval : ∀ (j : Nat) t v, Try.f5.params[j]? = some t → args[j]? = some v → Value.okWide Try.prog W .any base t v := hval0
  have hW' := hW
  obtain ⟨p, q, hA0, hV, rfl, hfz, hnd⟩ := hW
  have hA : DataW.TrodAll enc Try.prog W 0 (fun _ => true) true Try.f5.params.toList args.toList ds p := hA0
  rw [Try.params5] at hA hval
  obtain ⟨v0, vs0, d0, ds0, p0, q0, hargs, rfl, rfl, h0, r0⟩ := trodAll_cons hA
  obtain ⟨v1, vs1, d1, ds1, p1, q1, rfl, rfl, rfl, h1, r1⟩ := trodAll_cons r0
  obtain ⟨rfl, rfl, rfl⟩ := trodAll_nil r1
  obtain rfl : args = #[v0, v1] := by cases args; simp_all
  obtain ⟨rfl, rfl⟩ := trodVars_none hV
  have lt0 : ∀ x ∈ p0, x.block < W.heap.size := by obtain ⟨m, hm⟩ := h0; exact DataW.trod_lt m _ _ _ hm
  have lt1 : ∀ x ∈ p1, x.block < W.heap.size := by obtain ⟨m, hm⟩ := h1; exact DataW.trod_lt m _ _ _ hm
  clear hA0 hval0
  refine (walkSketchOrder v0 v1 W base (hval 0 22 v0 rfl rfl) (Reads.of h0) (hval 1 32 v1 rfl rfl) (Reads.of h1)).mono fun e W' ⟨he, bel⟩ => ?_
  subst he
  exact ⟨_, rfl, _, _, _, [], _, [], hW', trodAll_mk1 (shut_bool Try.underlying4 _), (trodAll_cons_mk (Below.trod laidOut (by kernel_rfl) (of_decide_eq_true (by kernel_rfl)) h0 bel lt0) (trodAll_cons_mk (Below.trod laidOut (by kernel_rfl) (of_decide_eq_true (by kernel_rfl)) h1 bel lt1) trodAll_mk0)), rfl, bel.frame _, fun h => by cases h⟩

theorem overSketchOrder : Rows.sketchOrderRow.holds Try.pinned (OpenSpec.ofChange Rows.sketchOrderSpec) :=
  OpenClaim.holds_of_wide 5 Try.f5 rfl rfl rfl rfl rfl rfl rfl ⟨rfl, rfl, rfl, rfl, rfl⟩ rfl rfl rfl rfl rfl (by kernel_rfl) Try.func5 (by kernel_rfl)
    (of_decide_eq_true (by kernel_rfl)) (by unfold Func.isWrapper; first | (rw [if_pos (by decide +kernel)]; kernel_rfl) | (rw [if_neg (by decide +kernel)]; exact ⟨rfl, rfl⟩))
    (fun os started H enc _ => liftedSketchOrder os started H enc)

/-- The statement. -/
theorem sketchOrder_holds : Rows.SketchOrderSaid := overSketchOrder
#print axioms sketchOrder_holds
end Go.Proofs.Ytkmlnohccaogjaa
