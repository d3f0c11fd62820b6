/-
  HashRows: the four rows are together the lowest 24 bits of a hash, and Home of a greater number of bits begins with Home of a lesser one. No condition.
-/
import Derived.Test.YtpnglkfjdejkjaaHash
namespace Go.Proofs.Ytpnglkfjdejkjaa
open Go.ChangeShapes Go.WideShapes Go.ChangeAt Go.RowKit
set_option linter.unusedVariables false
theorem low_step (h : Int) (k : Nat) (hk : k < 4) (h0 : 0 ≤ h) : wrap64 (h % 2 ^ (6 * k) + wrap64 (rowD h k * 2 ^ (6 * k))) = h % 2 ^ (6 * (k + 1)) := by
  have e : ∀ x : Int, 0 ≤ x → x < 16777216 → wrap64 x = x := fun x a b => IntWalk.wrap64_in _ ⟨by omega, by omega⟩
  unfold rowD
  rw [if_pos (by omega)]
  have hc : k = 0 ∨ k = 1 ∨ k = 2 ∨ k = 3 := by omega
  rcases hc with rfl | rfl | rfl | rfl
  · simp only [show ((6 * ((0 : Nat) : Int)).toNat) = 0 from rfl, show 6 * 0 = 0 from rfl, show 6 * (0 + 1) = 6 from rfl]
    rw [show (2 : Int) ^ 0 = 1 from rfl, show (2 : Int) ^ 6 = 64 from rfl]
    rw [e (h / 1 % 64 * 1) (by omega) (by omega), e _ (by omega) (by omega)]; omega
  · simp only [show ((6 * ((1 : Nat) : Int)).toNat) = 6 from rfl, show 6 * 1 = 6 from rfl, show 6 * (1 + 1) = 12 from rfl]
    rw [show (2 : Int) ^ 12 = 4096 from rfl, show (2 : Int) ^ 6 = 64 from rfl]
    rw [e (h / 64 % 64 * 64) (by omega) (by omega), e _ (by omega) (by omega)]; omega
  · simp only [show ((6 * ((2 : Nat) : Int)).toNat) = 12 from rfl, show 6 * 2 = 12 from rfl, show 6 * (2 + 1) = 18 from rfl]
    rw [show (2 : Int) ^ 12 = 4096 from rfl, show (2 : Int) ^ 18 = 262144 from rfl]
    rw [e (h / 4096 % 64 * 4096) (by omega) (by omega), e _ (by omega) (by omega)]; omega
  · simp only [show ((6 * ((3 : Nat) : Int)).toNat) = 18 from rfl, show 6 * 3 = 18 from rfl, show 6 * (3 + 1) = 24 from rfl]
    rw [show (2 : Int) ^ 24 = 16777216 from rfl, show (2 : Int) ^ 18 = 262144 from rfl]
    rw [e (h / 262144 % 64 * 262144) (by omega) (by omega), e _ (by omega) (by omega)]; omega
theorem fold_rng (n : Int) : 1 ≤ wrap64 (1 + (wrap64 (n.tmod 29 + 29)).tmod 29) ∧ wrap64 (1 + (wrap64 (n.tmod 29 + 29)).tmod 29) ≤ 29 := by
  have a : -29 < n.tmod 29 ∧ n.tmod 29 < 29 := ⟨by have := Int.lt_tmod_of_pos n (b := 29) (by omega); omega, Int.tmod_lt_of_pos n (by omega)⟩
  rw [IntWalk.wrap64_in (n.tmod 29 + 29) ⟨by omega, by omega⟩, Int.tmod_eq_emod_of_nonneg (by omega), IntWalk.wrap64_in _ ⟨by omega, by omega⟩]
  omega
theorem home_half (h m : Int) (h0 : 0 ≤ h) (h1 : h < 18446744073709551616) (m0 : 1 ≤ m) (m1 : m ≤ 29) : homeD h m = homeD h (m + 1) / 2 ∧ 0 ≤ homeD h (m + 1) ∧ homeD h (m + 1) < 1073741824 := by
  have key : ∀ j : Int, 1 ≤ j → j ≤ 30 → homeD h j = h / 2 ^ (64 - j).toNat ∧ 0 ≤ homeD h j ∧ homeD h j < 1073741824 := by
    intro j j0 j1
    have e : homeD h j = wrap64 (h / 2 ^ (64 - j).toNat) := by unfold homeD; rw [if_pos (by omega)]
    have hm : (64 - j).toNat = (30 - j).toNat + 34 := by omega
    have hp : (1 : Int) ≤ 2 ^ (30 - j).toNat := Int.pow_pos (by omega)
    have a1 : 0 ≤ h / 2 ^ (64 - j).toNat := Int.ediv_nonneg h0 (Int.le_of_lt (Int.pow_pos (by omega)))
    have a2 : h / 2 ^ (64 - j).toNat < 1073741824 := by
      rw [hm, Int.pow_add]
      refine Int.ediv_lt_of_lt_mul (by omega) ?_
      omega
    rw [IntWalk.wrap64_in _ ⟨by omega, by omega⟩] at e
    rw [e]; exact ⟨rfl, a1, a2⟩
  obtain ⟨a, _, _⟩ := key m m0 (by omega)
  obtain ⟨b, b1, b2⟩ := key (m + 1) (by omega) (by omega)
  refine ⟨?_, b1, b2⟩
  rw [a, b, show (64 - m).toNat = (64 - (m + 1)).toNat + 1 from by omega, Int.pow_succ, Int.ediv_ediv_of_nonneg (Int.le_of_lt (Int.pow_pos (by omega)))]
set_option maxHeartbeats 400000 in
theorem walkHashRows (h n : Int) (w : World) (wh : (Lit.int .u64 h).wf = true) (wn : (Lit.int .i64 n).wf = true) :
    Calls Try.prog 6 #[.int .u64 h, .int .i64 n] w fun e w' => e = .returned (.bool true) ∧ Below w.heap.size w w' := by
  obtain ⟨h0, h1⟩ := bounds_u64 wh
  obtain ⟨n0, n1⟩ := bounds_i64 wn
  clear wh wn
  go_enter Try.func6, Try.ntmps6
  go_wp2_with fail
  go_loop [5, 6] (fun s i => ∃ k : Nat, k ≤ 4 ∧ i = .int .i64 k ∧ s = .int .i64 (h % 2 ^ (6 * k))) (fun _ i => 4 - (intOf i).toNat)
  case atStart => exact ⟨0, Nat.zero_le _, rfl, by simp⟩
  case round =>
    obtain ⟨k, hk, rfl, rfl⟩ := hrel
    by_cases hlt : k < 4
    · go_wp2_with (first
        | (go_at_call 11; refine (row11 h k _ h0 (by omega)).mono ?_; rintro e w' ⟨rfl, rfl⟩))
      exact ⟨⟨k + 1, by omega, by go_num, by rw [low_step h k hlt h0]⟩, by simp [intOf]; omega⟩
    · obtain rfl : k = 4 := by omega
      go_wp2_with fail
      have hm := fold_rng n
      generalize wrap64 (1 + (wrap64 (n.tmod 29 + 29)).tmod 29) = m at *
      generalize wrap64 (n.tmod 29 + 29) = m1 at *
      obtain ⟨m0, m1⟩ := hm
      have hh := home_half h m h0 (by omega) m0 m1
      have a1 := fun W => home10 h (m + 1) W
      have a2 := fun W => home10 h m W
      rw [hh.1] at a2
      obtain ⟨_, x0, x1⟩ := hh
      generalize homeD h (m + 1) = x at *
      have A1 := Lib.hid a1; have A2 := Lib.hid a2
      clear a1 a2
      refine (awake7 _).mono ?_
      rintro e w1 ⟨rfl, hb⟩
      go_wp2_with fail
      refine (A1.out _).mono ?_
      rintro e w' ⟨rfl, rfl⟩
      go_wp2_with fail
      refine (A2.out _).mono ?_
      rintro e w' ⟨rfl, rfl⟩
      go_wp2_with fail
      go_ret
      exact ⟨rfl, hb⟩
set_option maxRecDepth 100000 in
theorem liftedHashRows (os : Os) (started : os.Started) (H : Type) (enc : TypeId × Value → H) :
    ReturnsInHanded {} Try.checked os 6 .any (Rows.hashRowsSpec.pre6 enc Try.prog Try.f6 Rows.hashRowsRow.domain false) (Rows.hashRowsSpec.post enc Try.prog Try.f6 false true false false) := by
  refine returnsInHanded_of_change (C := Try.checked) own started (by kernel_rfl) Try.func6
    (ChangeSpec.witness6 (enc := enc) (C := Try.checked) false ⟨#[], #[.int .u64 0, .int .i64 0], []⟩ 8 (by kernel_rfl) (by kernel_rfl) (by kernel_rfl) (by kernel_rfl)) ?_
  intro W base args ds gs before hval0 hW hcnd _
  have hval : ∀ (j : Nat) t v, Try.f6.params[j]? = some t → args[j]? = some v → Value.okWide Try.prog W .any base t v := hval0
  have hW' := hW
  obtain ⟨p, q, hA0, hV, rfl, hfz, hnd⟩ := hW
  have hA : DataW.TrodAll enc Try.prog W 0 (fun _ => true) true Try.f6.params.toList args.toList ds p := hA0
  rw [Try.params6] at hA hval
  obtain ⟨v0, vs0, d0, ds0, p0, q0, hargs, rfl, rfl, h0, r0⟩ := trodAll_cons hA
  obtain ⟨v1, vs1, d1, ds1, p1, q1, rfl, rfl, rfl, h1, r1⟩ := trodAll_cons r0
  obtain ⟨rfl, rfl, rfl⟩ := trodAll_nil r1
  obtain rfl : args = #[v0, v1] := by cases args; simp_all
  obtain ⟨rfl, rfl⟩ := trodVars_none hV
  obtain ⟨a0, rfl, rfl, rfl, w0⟩ := open_int Try.underlying24 (hval 0 24 v0 rfl rfl) h0
  obtain ⟨a1, rfl, rfl, rfl, w1⟩ := open_int Try.underlying3 (hval 1 3 v1 rfl rfl) h1
  clear hA0 hval0
  refine (walkHashRows a0 a1 W w0 w1).mono fun e W' ⟨he, bel⟩ => ?_
  subst he
  exact ⟨_, rfl, _, _, _, [], _, [], hW', trodAll_mk1 (shut_bool Try.underlying4 _), (trodAll_cons_mk (shut_int Try.underlying24 w0) (trodAll_cons_mk (shut_int Try.underlying3 w1) trodAll_mk0)), rfl, bel.frame _, fun h => by cases h⟩

theorem overHashRows : Rows.hashRowsRow.holds Try.pinned (OpenSpec.ofChange Rows.hashRowsSpec) :=
  OpenClaim.holds_of_wide 6 Try.f6 rfl rfl rfl rfl rfl rfl rfl ⟨rfl, rfl, rfl, rfl, rfl⟩ rfl rfl rfl rfl rfl (by kernel_rfl) Try.func6 (by kernel_rfl)
    (of_decide_eq_true (by kernel_rfl)) (by unfold Func.isWrapper; first | (rw [if_pos (by decide +kernel)]; kernel_rfl) | (rw [if_neg (by decide +kernel)]; exact ⟨rfl, rfl⟩))
    (fun os started H enc _ => liftedHashRows os started H enc)

/-- The statement. -/
theorem hashRows_holds : Rows.HashRowsSaid := overHashRows
#print axioms hashRows_holds
end Go.Proofs.Ytpnglkfjdejkjaa
