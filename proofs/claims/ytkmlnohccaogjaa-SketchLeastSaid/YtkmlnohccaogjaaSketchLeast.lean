/-
  SketchLeast: with fewer than 640 touches, an estimate is at least the number of touches, up to 15, and at most 15. No condition.
-/
import Derived.Test.YtkmlnohccaogjaaLaw19
namespace Go.Proofs.Ytkmlnohccaogjaa
open Go.RowKit Go.ChangeShapes Go.WideShapes Go.ChangeAt
set_option linter.unusedVariables false
set_option maxHeartbeats 1000000 in
theorem touch_nil (h : Int) (w : World) : Calls Try.prog 7 #[.pointer none, .int .u64 h] w fun e w' => NoRes e ∧ w = w' := by
  go_enter Try.func7, Try.ntmps7
  go_wp2_with fail
  refine bodyPost_ret (results_none rfl _ _ _) rfl ?_
  exact ⟨rfl, rfl⟩
theorem est_nil (h : Int) (w : World) : Calls Try.prog 10 #[.pointer none, .int .u64 h] w fun e w' => e = .returned (.int .i64 0) ∧ w = w' := by
  go_enter Try.func10, Try.ntmps10
  go_wp2_with fail
  go_ret
  exact ⟨rfl, rfl⟩
theorem touches_nil (w : World) : Calls Try.prog 9 #[.pointer none] w fun e w' => e = .returned (.int .i64 0) ∧ w = w' := by
  go_enter Try.func9, Try.ntmps9
  go_wp2_with fail
  go_ret
  exact ⟨rfl, rfl⟩
def cnt (f : Nat → Int) (h : Int) : Nat → Nat
  | 0 => 0
  | k + 1 => if f k = h then cnt f h k + 1 else cnt f h k
theorem cnt_eq (f : Nat → Int) (h : Int) (k : Nat) : cnt f h k = ((List.range k).map f).countP (fun x => x == h) := by
  induction k with
  | zero => rfl
  | succ k ih =>
    rw [List.range_succ, List.map_append, List.countP_append, ← ih]
    simp only [List.map_cons, List.map_nil, List.countP_singleton, cnt, beq_iff_eq]
    split <;> omega
theorem cnt_le (f : Nat → Int) (h : Int) (k : Nat) : cnt f h k ≤ k := by
  induction k with
  | zero => exact Nat.le_refl _
  | succ k ih => unfold cnt; split <;> omega
set_option maxRecDepth 100000 in
set_option maxHeartbeats 2000000 in
theorem leastlaw (a : Option Addr) (len cap : Nat) (zs : List Int) (h : Int) (w : World) (hl : len ≤ 9223372036854775807) (he : Elems .u64 w a len zs) (hz : ∀ i, i < len → 0 ≤ zs[i]?.getD 0 ∧ zs[i]?.getD 0 < 18446744073709551616) (h0 : 0 ≤ h) (h1 : h < 18446744073709551616) :
    Calls Try.prog 4 #[.slice a len cap, .int .u64 h] w fun e w' => e = .returned (.bool true) ∧ Below w.heap.size w w' := by
  have HE := Lib.hid he
  have HZ := Lib.hid hz
  clear he hz
  obtain ⟨f, hf⟩ : ∃ f : Nat → Int, f = fun j => zs[j]?.getD 0 := ⟨_, rfl⟩
  have HF := Lib.hid hf
  clear hf
  go_enter Try.func4, Try.ntmps4
  go_wp2_with fail
  with_reducible refine (new6 _).mono ?_
  rintro e w1 ⟨rfl, k1, g1⟩
  have K1 := Lib.hid k1
  have B1 := Lib.hid ((Below.refl w.heap.size w).grown g1 (Nat.le_refl _) (fun k hk => by cases hk))
  clear k1 g1
  go_wp2_with fail
  go_loopw [6, 7] (fun n i wr => ∃ k : Nat, k ≤ len ∧ k ≤ 600 ∧ i = .int .i64 k ∧ n = .int .i64 (cnt f h k : Int) ∧ Sk .u8 wr w.heap.size (runS f k).1 (runS f k).2 ∧ Below w.heap.size w wr) (fun _ i _ => len - (intOf i).toNat)
  case atStart => exact ⟨0, Nat.zero_le _, Nat.zero_le _, rfl, rfl, K1.out, B1.out⟩
  case round =>
    obtain ⟨k, hk, hk6, rfl, rfl, ka, hb⟩ := hrel
    have KA := Lib.hid ka
    have B := Lib.hid hb
    clear ka hb
    have OKA := Lib.hid (runS_ok f k)
    have hcl := cnt_le f h k
    by_cases hlt : k < len ∧ k < 600
    · obtain ⟨hlt, hlt6⟩ := hlt
      obtain ⟨x, hx⟩ : ∃ x, f k = x := ⟨_, rfl⟩
      have hx0 := HZ.out k hlt
      obtain ⟨b0, o0, rfl, hb0, hcx⟩ := HE.out k hlt
      rw [show zs[k]?.getD 0 = x from by rw [← hx, HF.out]] at hx0 hcx
      have hcell : wr.cell? ⟨b0, o0 + k, none⟩ = some (.int .u64 x) := by rw [B.out.cell hb0]; exact hcx
      have e1 : runS f (k + 1) = (touchC (runS f k).1 (runS f k).2 x, touchN (runS f k).2) := by rw [← hx]; rfl
      have e2 : cnt f h (k + 1) = if x = h then cnt f h k + 1 else cnt f h k := by rw [← hx]; rfl
      have E1 := Lib.hid e1
      have E2 := Lib.hid e2
      clear e1 e2 hx
      go_wp2_with fail
      with_reducible refine (touch7 _ _ _ _ _ hx0.1 hx0.2 KA.out OKA.out.1 OKA.out.2).mono ?_
      rintro e w3 ⟨he, k3, g3⟩
      unfold NoRes at he
      subst he
      have K3 := Lib.hid k3
      have B3 := Lib.hid (B.out.grown g3 B.out.size (fun k hk => by cases hk; exact Nat.le_refl _))
      have hcell : w3.cell? ⟨b0, o0 + k, none⟩ = some (.int .u64 x) := by rw [B3.out.cell hb0]; exact hcx
      clear k3 g3 hcx hx0
      by_cases hxh : x = h
      · have d1 : (x == h) = true := beq_iff_eq.2 hxh
        have E3 := Lib.hid (show cnt f h (k + 1) = cnt f h k + 1 from by rw [E2.out, if_pos hxh])
        clear hxh
        go_wp2_with fail
        go_roundw
        case rel => exact ⟨k + 1, by omega, by omega, by go_num, by rw [E3.out]; go_num, by rw [E1.out]; exact K3.out, B3.out⟩
        case measure => simp [intOf]; omega
      · have d1 : (x == h) = false := beq_eq_false_iff_ne.2 hxh
        have E3 := Lib.hid (show cnt f h (k + 1) = cnt f h k from by rw [E2.out, if_neg hxh])
        clear hxh
        go_wp2_with fail
        go_roundw
        case rel => exact ⟨k + 1, by omega, by omega, by go_num, by rw [E3.out], by rw [E1.out]; exact K3.out, B3.out⟩
        case measure => simp [intOf]; omega
    · have hest := run_least f k (by omega) h
      rw [← cnt_eq] at hest
      have hle := estD_le (runS f k).1 h 4
      have HC := Lib.hid (est10 w.heap.size h _ _ wr h0 h1 KA.out OKA.out.1)
      generalize estD (runS f k).1 h 4 = E at *
      generalize cnt f h k = N at *
      by_cases hkl : k < len
      · have hk2 : 600 ≤ k := by omega
        by_cases hN : N ≤ 15
        · have hE : N ≤ E := by omega
          clear hest
          go_wp2_with fail
          with_reducible refine HC.out.mono ?_
          rintro e w4 ⟨rfl, m4, rfl⟩
          go_wp2_with fail
          with_reducible refine (touch_nil _ _).mono ?_
          rintro e w5 ⟨he, rfl⟩
          unfold NoRes at he
          subst he
          go_wp2_with fail
          with_reducible refine (awake19 _).mono ?_
          rintro e w6 ⟨rfl, hb6⟩
          have B6 := Lib.hid ((below_drewN B.out m4).trans (hb6.mono B.out.size))
          clear hb6
          go_wp2_with fail
          with_reducible refine (est_nil _ _).mono ?_
          rintro e w7 ⟨rfl, rfl⟩
          go_wp2_with fail
          with_reducible refine (touches_nil _).mono ?_
          rintro e w7 ⟨rfl, rfl⟩
          go_wp2_with fail
          go_ret
          exact ⟨rfl, B6.out⟩
        · have hE : 15 ≤ E := by omega
          clear hest
          go_wp2_with fail
          with_reducible refine HC.out.mono ?_
          rintro e w4 ⟨rfl, m4, rfl⟩
          go_wp2_with fail
          with_reducible refine (touch_nil _ _).mono ?_
          rintro e w5 ⟨he, rfl⟩
          unfold NoRes at he
          subst he
          go_wp2_with fail
          with_reducible refine (awake19 _).mono ?_
          rintro e w6 ⟨rfl, hb6⟩
          have B6 := Lib.hid ((below_drewN B.out m4).trans (hb6.mono B.out.size))
          clear hb6
          go_wp2_with fail
          with_reducible refine (est_nil _ _).mono ?_
          rintro e w7 ⟨rfl, rfl⟩
          go_wp2_with fail
          with_reducible refine (touches_nil _).mono ?_
          rintro e w7 ⟨rfl, rfl⟩
          go_wp2_with fail
          go_ret
          exact ⟨rfl, B6.out⟩
      · have hk2 : len ≤ k := by omega
        by_cases hN : N ≤ 15
        · have hE : N ≤ E := by omega
          clear hest
          go_wp2_with fail
          with_reducible refine HC.out.mono ?_
          rintro e w4 ⟨rfl, m4, rfl⟩
          go_wp2_with fail
          with_reducible refine (touch_nil _ _).mono ?_
          rintro e w5 ⟨he, rfl⟩
          unfold NoRes at he
          subst he
          go_wp2_with fail
          with_reducible refine (awake19 _).mono ?_
          rintro e w6 ⟨rfl, hb6⟩
          have B6 := Lib.hid ((below_drewN B.out m4).trans (hb6.mono B.out.size))
          clear hb6
          go_wp2_with fail
          with_reducible refine (est_nil _ _).mono ?_
          rintro e w7 ⟨rfl, rfl⟩
          go_wp2_with fail
          with_reducible refine (touches_nil _).mono ?_
          rintro e w7 ⟨rfl, rfl⟩
          go_wp2_with fail
          go_ret
          exact ⟨rfl, B6.out⟩
        · have hE : 15 ≤ E := by omega
          clear hest
          go_wp2_with fail
          with_reducible refine HC.out.mono ?_
          rintro e w4 ⟨rfl, m4, rfl⟩
          go_wp2_with fail
          with_reducible refine (touch_nil _ _).mono ?_
          rintro e w5 ⟨he, rfl⟩
          unfold NoRes at he
          subst he
          go_wp2_with fail
          with_reducible refine (awake19 _).mono ?_
          rintro e w6 ⟨rfl, hb6⟩
          have B6 := Lib.hid ((below_drewN B.out m4).trans (hb6.mono B.out.size))
          clear hb6
          go_wp2_with fail
          with_reducible refine (est_nil _ _).mono ?_
          rintro e w7 ⟨rfl, rfl⟩
          go_wp2_with fail
          with_reducible refine (touches_nil _).mono ?_
          rintro e w7 ⟨rfl, rfl⟩
          go_wp2_with fail
          go_ret
          exact ⟨rfl, B6.out⟩
theorem u64_bd {n : Int} (h : (Lit.int .u64 n).wf = true) : 0 ≤ n ∧ n < 18446744073709551616 := by
  have := bounds_u64 h
  omega
theorem walkSketchLeast (v0 v1 : Value) (w : World) (base : Nat)
    (o0 : Value.okWide Try.prog w .any base 22 v0) (r0 : Reads Try.prog w 22 v0.cells.toList)
    (o1 : Value.okWide Try.prog w .any base 32 v1) (r1 : Reads Try.prog w 32 v1.cells.toList) :
    Calls Try.prog 4 #[v0, v1] w fun e w' => e = .returned (.bool true) ∧ Below w.heap.size w w' := by
  obtain ⟨a, len, cap, zs, rfl, h1, h2, _, h3, h4⟩ := arg_ints Try.underlying22 Try.underlying32 (by kernel_rfl) o0 r0
  obtain ⟨h, rfl, hw⟩ := arg_int Try.underlying32 o1 r1
  exact leastlaw a len cap zs h w (by omega) h3 (fun i hi => u64_bd (h4 i hi)) (u64_bd hw).1 (u64_bd hw).2
set_option maxRecDepth 100000 in
theorem liftedSketchLeast (os : Os) (started : os.Started) (H : Type) (enc : TypeId × Value → H) :
    ReturnsInHanded {} Try.checked os 4 .any (Rows.sketchLeastSpec.pre6 enc Try.prog Try.f4 Rows.sketchLeastRow.domain false) (Rows.sketchLeastSpec.post enc Try.prog Try.f4 false true false false) := by
  refine returnsInHanded_of_change (C := Try.checked) own started (by kernel_rfl) Try.func4
    (ChangeSpec.witness6 (enc := enc) (C := Try.checked) false ⟨#[], #[.slice none 0 0, .int .u64 0], []⟩ 8 (by kernel_rfl) (by kernel_rfl) (by kernel_rfl) (by kernel_rfl)) ?_
  intro W base args ds gs before hval0 hW hcnd _
  have hval : ∀ (j : Nat) t v, Try.f4.params[j]? = some t → args[j]? = some v → Value.okWide Try.prog W .any base t v := hval0
  have hW' := hW
  obtain ⟨p, q, hA0, hV, rfl, hfz, hnd⟩ := hW
  have hA : DataW.TrodAll enc Try.prog W 0 (fun _ => true) true Try.f4.params.toList args.toList ds p := hA0
  rw [Try.params4] at hA hval
  obtain ⟨v0, vs0, d0, ds0, p0, q0, hargs, rfl, rfl, h0, r0⟩ := trodAll_cons hA
  obtain ⟨v1, vs1, d1, ds1, p1, q1, rfl, rfl, rfl, h1, r1⟩ := trodAll_cons r0
  obtain ⟨rfl, rfl, rfl⟩ := trodAll_nil r1
  obtain rfl : args = #[v0, v1] := by cases args; simp_all
  obtain ⟨rfl, rfl⟩ := trodVars_none hV
  have lt0 : ∀ x ∈ p0, x.block < W.heap.size := by obtain ⟨m, hm⟩ := h0; exact DataW.trod_lt m _ _ _ hm
  have lt1 : ∀ x ∈ p1, x.block < W.heap.size := by obtain ⟨m, hm⟩ := h1; exact DataW.trod_lt m _ _ _ hm
  clear hA0 hval0
  refine (walkSketchLeast v0 v1 W base (hval 0 22 v0 rfl rfl) (Reads.of h0) (hval 1 32 v1 rfl rfl) (Reads.of h1)).mono fun e W' ⟨he, bel⟩ => ?_
  subst he
  exact ⟨_, rfl, _, _, _, [], _, [], hW', trodAll_mk1 (shut_bool Try.underlying4 _), (trodAll_cons_mk (Below.trod laidOut (by kernel_rfl) (of_decide_eq_true (by kernel_rfl)) h0 bel lt0) (trodAll_cons_mk (Below.trod laidOut (by kernel_rfl) (of_decide_eq_true (by kernel_rfl)) h1 bel lt1) trodAll_mk0)), rfl, bel.frame _, fun h => by cases h⟩

theorem overSketchLeast : Rows.sketchLeastRow.holds Try.pinned (OpenSpec.ofChange Rows.sketchLeastSpec) :=
  OpenClaim.holds_of_wide 4 Try.f4 rfl rfl rfl rfl rfl rfl rfl ⟨rfl, rfl, rfl, rfl, rfl⟩ rfl rfl rfl rfl rfl (by kernel_rfl) Try.func4 (by kernel_rfl)
    (of_decide_eq_true (by kernel_rfl)) (by unfold Func.isWrapper; first | (rw [if_pos (by decide +kernel)]; kernel_rfl) | (rw [if_neg (by decide +kernel)]; exact ⟨rfl, rfl⟩))
    (fun os started H enc _ => liftedSketchLeast os started H enc)

/-- The statement. -/
theorem sketchLeast_holds : Rows.SketchLeastSaid := overSketchLeast
#print axioms sketchLeast_holds
end Go.Proofs.Ytkmlnohccaogjaa
