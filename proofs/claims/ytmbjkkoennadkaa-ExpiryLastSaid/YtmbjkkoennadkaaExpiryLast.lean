/-
  ExpiryLast: of a key that is put several times, only the last expiry counts. No condition.
-/
import Derived.Test.YtmbjkkoennadkaaAwake18
import Derived.Test.YtmbjkkoennadkaaRead
import Derived.Deep.DeepCutAuto
namespace Go.Proofs.Ytmbjkkoennadkaa
open Go.RowKit Go.Maps Go.ChangeShapes Go.WideShapes Go.ChangeAt
set_option linter.unusedVariables false
def oneL (k : ByteArray) (a : Int) : List Item := if a < 1 then [] else [⟨k, a⟩]
theorem put_one (k : ByteArray) (a c : Int) : putL (oneL k a) k c = oneL k c := by
  have h : remL (oneL k a) k = [] := by
    unfold oneL remL
    split <;> simp
  unfold putL
  rw [h]
  unfold oneL
  split <;> rfl
theorem one_cases (k : ByteArray) (a now : Int) : (a < 1 ∧ oneL k a = [] ∧ early (oneL k a) now = [] ∧ late (oneL k a) now = []) ∨ (1 ≤ a ∧ a ≤ now ∧ early (oneL k a) now = [⟨k, a⟩] ∧ late (oneL k a) now = []) ∨
    (1 ≤ a ∧ now < a ∧ early (oneL k a) now = [] ∧ late (oneL k a) now = [⟨k, a⟩]) := by
  unfold oneL
  by_cases h : a < 1
  · simp [h, early, late]
  · rw [if_neg h]
    by_cases h2 : a ≤ now
    · refine .inr (.inl ⟨by omega, h2, ?_, ?_⟩) <;> simp [early, late, h2]
    · refine .inr (.inr ⟨by omega, by omega, ?_, ?_⟩) <;> simp [early, late, h2]
set_option maxRecDepth 100000 in
set_option maxHeartbeats 4000000 in
theorem lastlaw (key : ByteArray) (a : Option Addr) (len cap : Nat) (zs : List Int) (now : Int) (w : World) (hkey : key.size ≤ 9223372036854775807) (hl : len ≤ 9223372036854775807) (he : Elems .i64 w a len zs) (hz : ∀ i, i < len → (Lit.int .i64 (zs[i]?.getD 0)).wf = true) :
    Calls Try.prog 4 #[.string key, .slice a len cap, .int .i64 now] w fun e w' => e = .returned (.bool true) ∧ Below w.heap.size w w' := by
  have HE := Lib.hid he
  have HZ := Lib.hid hz
  clear he hz
  go_enter Try.func4, Try.ntmps4
  go_upto_region 1 with fail
  go_cut [0] (fun s wx => ∃ k : ByteArray, s = .string k ∧ k.size ≤ 10 ∧ w = wx)
  case first =>
    go_wp2_with fail
    all_goals go_meet
    · exact ⟨key.extract 0 10, rfl, by rw [ByteArray.size_extract]; omega, rfl⟩
    · exact ⟨key, rfl, by omega, rfl⟩
  case rest =>
    obtain ⟨k, rfl, hk, rfl⟩ := hcut
    go_wp2_with fail
    with_reducible refine (new7 _).mono ?_
    rintro e w1 ⟨b, S, rfl, q1, f1, n1⟩
    have Q1 := Lib.hid (And.intro q1 (And.intro f1 n1))
    clear q1 f1 n1
    go_wp2_with fail
    go_loopw [8, 9] (fun s i wr => ∃ (j : Nat) (c : Int) (S : Nat → Prop), j ≤ len ∧ j ≤ 12 ∧ i = .int .i64 j ∧ s = .int .i64 c ∧ QOk wr b j S (oneL k c) ∧ Fr (fun _ => False) w wr ∧ ∀ j, S j → w.heap.size ≤ j) (fun _ i _ => len - (intOf i).toNat)
    case atStart => exact ⟨0, 0, S, Nat.zero_le _, Nat.zero_le _, rfl, rfl, Q1.out.1, Q1.out.2.1, Q1.out.2.2⟩
    case round =>
      obtain ⟨j, c, S, hj, hj12, rfl, rfl, q, f, n⟩ := hrel
      have Q := Lib.hid (And.intro q (And.intro f n))
      clear q f n
      by_cases hlt : j < len ∧ j < 12
      · obtain ⟨hlt, hlt12⟩ := hlt
        obtain ⟨x, hx⟩ : ∃ x, zs[j]?.getD 0 = x := ⟨_, rfl⟩
        have hwf := HZ.out j hlt
        obtain ⟨b0, o0, rfl, hb0, hcx⟩ := HE.out j hlt
        rw [hx] at hwf hcx
        have HW := Lib.hid hwf
        have HCX := Lib.hid hcx
        have hcell : wr.cell? ⟨b0, o0 + j, none⟩ = some (.int .i64 x) := by
          rw [(fr_below Q.out.2.1).cell (p := ⟨b0, o0 + j, none⟩) hb0]; exact hcx
        clear hwf hx hcx
        go_wp2_with fail
        with_reducible refine (qput b j S _ k x _ (by omega) (by unfold maxLen; omega) HW.out Q.out.1).mono ?_
        rintro e w2 ⟨rfl, h2⟩
        obtain ⟨S2, q2⟩ := cond_put Q.out h2
        rw [put_one] at q2
        have Q2 := Lib.hid q2
        clear q2 h2 hcell
        have hcell : w2.cell? ⟨b0, o0 + j, none⟩ = some (.int .i64 x) := by
          rw [(fr_below Q2.out.2.1).cell (p := ⟨b0, o0 + j, none⟩) hb0]; exact HCX.out
        go_wp2_with fail
        go_roundw
        case rel => exact ⟨j + 1, x, S2, by omega, by omega, by go_num, rfl, Q2.out.1, Q2.out.2.1, Q2.out.2.2⟩
        case measure => simp [intOf]; omega
      · have HD := qdue b j S _ now wr (by omega) Q.out.1
        have hcs := one_cases k c now
        have hj2 : len ≤ j ∨ 12 ≤ j := by omega
        clear hlt
        rcases hcs with ⟨hc1, _, hE, hT⟩ | ⟨hc1, hc2, hE, hT⟩ | ⟨hc1, hc2, hE, hT⟩
        all_goals
          rw [hE, hT] at HD
          have HD' := Lib.hid HD
          clear HD hE hT
          by_cases hjl : j < len
        all_goals
          first
            | (have hj3 : len ≤ j := by omega)
            | (have hj3 : 12 ≤ j := by omega)
          clear hj2
          go_wp2_with fail
          with_reducible refine HD'.out.mono ?_
          rintro e w2 ⟨sl, rfl, hr, q2, f2⟩
          obtain ⟨a2, cap2, rfl, hv, _, _, _, _⟩ := ownsRow_vals hr
          have Q2 := Lib.hid q2
          have F2 := Lib.hid (fr_new Q.out.2.1 f2 Q.out.2.2)
          have HV2 := Lib.hid hv
          clear q2 f2 hr hv
          go_wp2_with fail
          with_reducible refine (awake10 _).mono ?_
          rintro e w3 ⟨rfl, hb3⟩
          have Q3 := Lib.hid (Q2.out.frame (T := fun _ => False) (.of_below hb3) (fun _ _ f => f))
          have F3 := Lib.hid (fr_new F2.out (.of_below (S := fun _ => False) hb3) (fun _ f => f.elim))
          have HV3 := Lib.hid (HV2.out.below hb3 (Nat.le_refl _))
          clear hb3
          try
            obtain ⟨b3, o3, rfl, hb3, hc3⟩ := HV3.out.at 0 (v := .string k) rfl
            simp only [Nat.add_zero] at hc3
          have hkk : (k.toList == k.toList) = true := by simp
          go_wp2_with fail
          with_reducible refine (len12 b j S _ _ Q3.out).mono ?_
          rintro e w4 ⟨rfl, rfl⟩
          go_wp2_with fail
          go_ret
          exact ⟨by first | rfl | (simp; omega), fr_below F3.out⟩
theorem walkExpiryLast (v0 v1 v2 : Value) (w : World) (base : Nat)
    (o0 : Value.okWide Try.prog w .any base 9 v0) (r0 : Reads Try.prog w 9 v0.cells.toList)
    (o1 : Value.okWide Try.prog w .any base 23 v1) (r1 : Reads Try.prog w 23 v1.cells.toList)
    (o2 : Value.okWide Try.prog w .any base 3 v2) (r2 : Reads Try.prog w 3 v2.cells.toList) :
    Calls Try.prog 4 #[v0, v1, v2] w fun e w' => e = .returned (.bool true) ∧ Below w.heap.size w w' := by
  obtain ⟨key, rfl, hk⟩ := arg_string Try.underlying9 o0 r0
  obtain ⟨a, len, cap, zs, rfl, h1, h2, _, h3, h4⟩ := arg_ints Try.underlying23 Try.underlying3 (by kernel_rfl) o1 r1
  obtain ⟨now, rfl, _⟩ := arg_int Try.underlying3 o2 r2
  unfold maxLen at hk
  exact lastlaw key a len cap zs now w hk (by omega) h3 h4
set_option maxRecDepth 100000 in
theorem liftedExpiryLast (os : Os) (started : os.Started) (H : Type) (enc : TypeId × Value → H) :
    ReturnsInHanded {} Try.checked os 4 .any (Rows.expiryLastSpec.pre6 enc Try.prog Try.f4 Rows.expiryLastRow.domain false) (Rows.expiryLastSpec.post enc Try.prog Try.f4 false true false false) := by
  refine returnsInHanded_of_change (C := Try.checked) own started (by kernel_rfl) Try.func4
    (ChangeSpec.witness6 (enc := enc) (C := Try.checked) false ⟨#[], #[.string ByteArray.empty, .slice none 0 0, .int .i64 0], []⟩ 8 (by kernel_rfl) (by kernel_rfl) (by kernel_rfl) (by kernel_rfl)) ?_
  intro W base args ds gs before hval0 hW hcnd _
  have hval : ∀ (j : Nat) t v, Try.f4.params[j]? = some t → args[j]? = some v → Value.okWide Try.prog W .any base t v := hval0
  have hW' := hW
  obtain ⟨p, q, hA0, hV, rfl, hfz, hnd⟩ := hW
  have hA : DataW.TrodAll enc Try.prog W 0 (fun _ => true) true Try.f4.params.toList args.toList ds p := hA0
  rw [Try.params4] at hA hval
  obtain ⟨v0, vs0, d0, ds0, p0, q0, hargs, rfl, rfl, h0, r0⟩ := trodAll_cons hA
  obtain ⟨v1, vs1, d1, ds1, p1, q1, rfl, rfl, rfl, h1, r1⟩ := trodAll_cons r0
  obtain ⟨v2, vs2, d2, ds2, p2, q2, rfl, rfl, rfl, h2, r2⟩ := trodAll_cons r1
  obtain ⟨rfl, rfl, rfl⟩ := trodAll_nil r2
  obtain rfl : args = #[v0, v1, v2] := by cases args; simp_all
  obtain ⟨rfl, rfl⟩ := trodVars_none hV
  have lt0 : ∀ x ∈ p0, x.block < W.heap.size := by obtain ⟨m, hm⟩ := h0; exact DataW.trod_lt m _ _ _ hm
  have lt1 : ∀ x ∈ p1, x.block < W.heap.size := by obtain ⟨m, hm⟩ := h1; exact DataW.trod_lt m _ _ _ hm
  have lt2 : ∀ x ∈ p2, x.block < W.heap.size := by obtain ⟨m, hm⟩ := h2; exact DataW.trod_lt m _ _ _ hm
  clear hA0 hval0
  refine (walkExpiryLast v0 v1 v2 W base (hval 0 9 v0 rfl rfl) (Reads.of h0) (hval 1 23 v1 rfl rfl) (Reads.of h1) (hval 2 3 v2 rfl rfl) (Reads.of h2)).mono fun e W' ⟨he, bel⟩ => ?_
  subst he
  exact ⟨_, rfl, _, _, _, [], _, [], hW', trodAll_mk1 (shut_bool Try.underlying4 _), (trodAll_cons_mk (Below.trod laidOut (by kernel_rfl) (of_decide_eq_true (by kernel_rfl)) h0 bel lt0) (trodAll_cons_mk (Below.trod laidOut (by kernel_rfl) (of_decide_eq_true (by kernel_rfl)) h1 bel lt1) (trodAll_cons_mk (Below.trod laidOut (by kernel_rfl) (of_decide_eq_true (by kernel_rfl)) h2 bel lt2) trodAll_mk0))), rfl, bel.frame _, fun h => by cases h⟩

theorem overExpiryLast : Rows.expiryLastRow.holds Try.pinned (OpenSpec.ofChange Rows.expiryLastSpec) :=
  OpenClaim.holds_of_wide 4 Try.f4 rfl rfl rfl rfl rfl rfl rfl ⟨rfl, rfl, rfl, rfl, rfl⟩ rfl rfl rfl rfl rfl (by kernel_rfl) Try.func4 (by kernel_rfl)
    (of_decide_eq_true (by kernel_rfl)) (by unfold Func.isWrapper; first | (rw [if_pos (by decide +kernel)]; kernel_rfl) | (rw [if_neg (by decide +kernel)]; exact ⟨rfl, rfl⟩))
    (fun os started H enc _ => liftedExpiryLast os started H enc)

/-- The statement. -/
theorem expiryLast_holds : Rows.ExpiryLastSaid := overExpiryLast
#print axioms expiryLast_holds
end Go.Proofs.Ytmbjkkoennadkaa
