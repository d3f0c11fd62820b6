/-
  HashPlaces: Home and Row agree with the reference, for every hash and number, and lie in their ranges. No condition.
-/
import Derived.Test.YtpnglkfjdejkjaaHash
namespace Go.Proofs.Ytpnglkfjdejkjaa
open Go.ChangeShapes Go.WideShapes Go.ChangeAt Go.RowKit
set_option linter.unusedVariables false
theorem homeD_rng (h n : Int) (h0 : 0 ≤ h) (h1 : h < 18446744073709551616) : 0 ≤ homeD h n ∧ homeD h n < 1073741824 := by
  unfold homeD
  by_cases hn : 1 ≤ n ∧ n ≤ 30
  · rw [if_pos hn]
    have hm : (64 - n).toNat = (30 - n).toNat + 34 := by omega
    rw [hm, Int.pow_add]
    have hp : (1 : Int) ≤ 2 ^ (30 - n).toNat := Int.pow_pos (by omega)
    have a1 : 0 ≤ h / (2 ^ (30 - n).toNat * 2 ^ 34) := Int.ediv_nonneg h0 (by omega)
    have a2 : h / (2 ^ (30 - n).toNat * 2 ^ 34) < 1073741824 := by
      refine Int.ediv_lt_of_lt_mul (by omega) ?_
      omega
    rw [IntWalk.wrap64_in _ ⟨by omega, by omega⟩]
    exact ⟨a1, a2⟩
  · rw [if_neg hn]; omega
theorem rowD_rng (h n : Int) : 0 ≤ rowD h n ∧ rowD h n < 64 := by
  unfold rowD
  split <;> omega
set_option maxHeartbeats 400000 in
theorem walkHashPlaces (h n : Int) (w : World) (wh : (Lit.int .u64 h).wf = true) (wn : (Lit.int .i64 n).wf = true) :
    Calls Try.prog 4 #[.int .u64 h, .int .i64 n] w fun e w' => e = .returned (.bool true) ∧ Below w.heap.size w w' := by
  obtain ⟨h0, h1⟩ := bounds_u64 wh
  have a1 := fun W => home10 h n W
  have a2 := fun W => home12 h n W
  have b1 := fun W => row11 h n W h0 (by omega)
  have b2 := fun W => row13 h n W h0 (by omega)
  obtain ⟨x0, x1⟩ := homeD_rng h n h0 (by omega)
  obtain ⟨y0, y1⟩ := rowD_rng h n
  generalize homeD h n = x at *
  generalize rowD h n = y at *
  have A1 := Lib.hid a1; have A2 := Lib.hid a2; have B1 := Lib.hid b1; have B2 := Lib.hid b2
  clear a1 a2 b1 b2 wh wn
  have e1 : decide (0 ≤ x) = true := by simpa using x0
  have e2 : decide (x < 1073741824) = true := by simpa using x1
  have e3 : decide (0 ≤ y) = true := by simpa using y0
  have e4 : decide (y < 64) = true := by simpa using y1
  go_enter Try.func4, Try.ntmps4
  go_wp2_with (first
    | (go_at_call 7; refine (awake7 _).mono ?_; rintro e w1 ⟨rfl, hb⟩)
    | (go_at_call 10; refine (A1.out _).mono ?_; rintro e w' ⟨rfl, rfl⟩)
    | (go_at_call 12; refine (A2.out _).mono ?_; rintro e w' ⟨rfl, rfl⟩)
    | (go_at_call 11; refine (B1.out _).mono ?_; rintro e w' ⟨rfl, rfl⟩)
    | (go_at_call 13; refine (B2.out _).mono ?_; rintro e w' ⟨rfl, rfl⟩))
  go_ret
  exact ⟨rfl, hb⟩
set_option maxRecDepth 100000 in
theorem liftedHashPlaces (os : Os) (started : os.Started) (H : Type) (enc : TypeId × Value → H) :
    ReturnsInHanded {} Try.checked os 4 .any (Rows.hashPlacesSpec.pre6 enc Try.prog Try.f4 Rows.hashPlacesRow.domain false) (Rows.hashPlacesSpec.post enc Try.prog Try.f4 false true false false) := by
  refine returnsInHanded_of_change (C := Try.checked) own started (by kernel_rfl) Try.func4
    (ChangeSpec.witness6 (enc := enc) (C := Try.checked) false ⟨#[], #[.int .u64 0, .int .i64 0], []⟩ 8 (by kernel_rfl) (by kernel_rfl) (by kernel_rfl) (by kernel_rfl)) ?_
  intro W base args ds gs before hval0 hW hcnd _
  have hval : ∀ (j : Nat) t v, Try.f4.params[j]? = some t → args[j]? = some v → Value.okWide Try.prog W .any base t v := hval0
  have hW' := hW
  obtain ⟨p, q, hA0, hV, rfl, hfz, hnd⟩ := hW
  have hA : DataW.TrodAll enc Try.prog W 0 (fun _ => true) true Try.f4.params.toList args.toList ds p := hA0
  rw [Try.params4] at hA hval
  obtain ⟨v0, vs0, d0, ds0, p0, q0, hargs, rfl, rfl, h0, r0⟩ := trodAll_cons hA
  obtain ⟨v1, vs1, d1, ds1, p1, q1, rfl, rfl, rfl, h1, r1⟩ := trodAll_cons r0
  obtain ⟨rfl, rfl, rfl⟩ := trodAll_nil r1
  obtain rfl : args = #[v0, v1] := by cases args; simp_all
  obtain ⟨rfl, rfl⟩ := trodVars_none hV
  obtain ⟨a0, rfl, rfl, rfl, w0⟩ := open_int Try.underlying24 (hval 0 24 v0 rfl rfl) h0
  obtain ⟨a1, rfl, rfl, rfl, w1⟩ := open_int Try.underlying3 (hval 1 3 v1 rfl rfl) h1
  clear hA0 hval0
  refine (walkHashPlaces a0 a1 W w0 w1).mono fun e W' ⟨he, bel⟩ => ?_
  subst he
  exact ⟨_, rfl, _, _, _, [], _, [], hW', trodAll_mk1 (shut_bool Try.underlying4 _), (trodAll_cons_mk (shut_int Try.underlying24 w0) (trodAll_cons_mk (shut_int Try.underlying3 w1) trodAll_mk0)), rfl, bel.frame _, fun h => by cases h⟩

theorem overHashPlaces : Rows.hashPlacesRow.holds Try.pinned (OpenSpec.ofChange Rows.hashPlacesSpec) :=
  OpenClaim.holds_of_wide 4 Try.f4 rfl rfl rfl rfl rfl rfl rfl ⟨rfl, rfl, rfl, rfl, rfl⟩ rfl rfl rfl rfl rfl (by kernel_rfl) Try.func4 (by kernel_rfl)
    (of_decide_eq_true (by kernel_rfl)) (by unfold Func.isWrapper; first | (rw [if_pos (by decide +kernel)]; kernel_rfl) | (rw [if_neg (by decide +kernel)]; exact ⟨rfl, rfl⟩))
    (fun os started H enc _ => liftedHashPlaces os started H enc)

/-- The statement. -/
theorem hashPlaces_holds : Rows.HashPlacesSaid := overHashPlaces
#print axioms hashPlaces_holds
end Go.Proofs.Ytpnglkfjdejkjaa
