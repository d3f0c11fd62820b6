/-
  TableWork: during any up to 120 calls, Places is a power of two, from 8 on, of which Len is at most three quarters, and no call moves more than eight entries. No condition.
-/
import Derived.Test.YtkjhofmimggpnaaTabRead
namespace Go.Proofs.Ytkjhofmimggpnaa
open Go.RowKit Go.Maps Go.ChangeShapes Go.WideShapes Go.ChangeAt
set_option linter.unusedVariables false
set_option maxRecDepth 100000 in
set_option maxHeartbeats 4000000 in
theorem worklaw (a : Option Addr) (len cap : Nat) (f : Nat → Op16) (w : World) (hl : len ≤ 9223372036854775807) (he : Ops w a len f) (hf : ∀ i, i < len → (Lit.int .i64 (f i).ky).wf = true) :
    Calls Try.prog 4 #[.slice a len cap] w fun e w' => e = .returned (.bool true) ∧ Below w.heap.size w w' := by
  have HE := Lib.hid he
  have HF := Lib.hid hf
  clear he hf
  go_enter Try.func4, Try.ntmps4
  go_wp2_with fail
  with_reducible refine (new_ob _).mono ?_
  rintro e w1 ⟨tb, T1, rfl, o1, n1, m1⟩
  have O1 := Lib.hid o1
  clear o1 m1
  go_wp2_with fail
  go_loopg [4, 5, 6] len (fun gk iv _ _ wr => ∃ (j : Nat) (T : Tab), j ≤ len ∧ j ≤ 120 ∧ iv = .int .i64 j ∧ gk + j = len ∧ Tob w wr tb T ∧ T.tot ≤ j)
  case atStart => exact ⟨0, T1, by omega, by omega, rfl, by omega, O1.out, by omega⟩
  case round =>
    obtain ⟨j, T, hj, hj120, rfl, hgk, ot, htot⟩ := hrel
    have O := Lib.hid ot
    have GK := Lib.hid hgk
    clear ot hgk O1
    by_cases hlt : j < len ∧ j < 120
    · obtain ⟨hlt, hlt120⟩ := hlt
      obtain ⟨b, off, rfl, hb, c0, c1, c2, c3, c4, c5, c6⟩ := (HE.out.below O.out.bel).at j hlt
      have hltI : (j : Int) < len := by omega
      have HK := HF.out j hlt
      have NM := Lib.hid (fun W => name12 (f j).ky W HK)
      clear HK
      go_wp2_with fail
      with_reducible refine (NM.out _).mono ?_
      rintro e w2 ⟨rfl, hb2⟩
      have O2 := Lib.hid (O.out.below hb2)
      obtain ⟨k, hk⟩ : ∃ k, nameN (nameD (f j).ky) = k := ⟨_, rfl⟩
      have hks : k.size ≤ 9223372036854775807 := by rw [← hk, nameN_size]; omega
      rw [hk]
      clear c0 c1 c2 c3 c4 c5 c6 hb hb2 hk NM
      obtain ⟨b', off', hab, hb, c0, c1, c2, c3, c4, c5, c6⟩ := (HE.out.below O2.out.bel).at j hlt
      cases hab
      by_cases hk0 : (f j).kd = 0
      · rw [hk0] at c0
        have SET := Lib.hid (set_ob tb T k (f j).en w w2 O2.out hks (by omega))
        unfold entV at SET
        go_wp2_with fail
        with_reducible refine SET.out.mono ?_
        rintro e w3 ⟨rfl, T3, o3, s3⟩
        have O3 := Lib.hid o3
        have ht3 : T3.tot ≤ j + 1 := by rcases s3.tot with ⟨_, h⟩ | ⟨_, h⟩ <;> omega
        have hw3 := s3.w8
        obtain ⟨P, hP⟩ : ∃ P : Int, ((2 ^ T3.nb : Nat) : Int) = P := ⟨_, rfl⟩
        have PL := Lib.hid (places_ob tb T3 w w3 O3.out)
        have hand := and_self_pow T3.nb O3.out.ti.n30
        have h8 : 8 ≤ P := by
          have : 2 ^ 3 ≤ 2 ^ T3.nb := Nat.pow_le_pow_right (by omega) O3.out.ti.n3
          omega
        have h30 : P ≤ 1073741824 := by
          have := pow_le30 O3.out.ti.n30
          omega
        have hq : 4 * (T3.tot : Int) ≤ 3 * P := by
          have := O3.out.ti.cap
          unfold Tab.tot
          omega
        rw [hP] at PL hand
        have ht120 : (T3.tot : Int) ≤ 121 := by omega
        have hw8 : (T3.work : Int) ≤ 8 := by omega
        clear hP c0 c1 c2 c3 c4 c5 c6 hb
        go_wp2_with fail
        with_reducible refine PL.out.mono ?_
        rintro e w4 ⟨rfl, rfl⟩
        go_wp2_with fail
        with_reducible refine (len_ob tb T3 w _ O3.out).mono ?_
        rintro e w5 ⟨rfl, m, rfl⟩
        have O5 := Lib.hid (O3.out.below (below_drewN (Below.refl _ _) m))
        generalize (World.drewN _ m) = w5 at *
        go_wp2_with fail
        with_reducible refine (work_ob tb T3 w _ O5.out).mono ?_
        rintro e w6 ⟨rfl, rfl⟩
        go_wp2_with fail
        with_reducible refine (work_ob tb T3 w _ O5.out).mono ?_
        rintro e w6 ⟨rfl, rfl⟩
        go_wp2_with fail
        go_roundg (len - (j + 1))
        case measure => have := GK.out; omega
        case rel => exact ⟨j + 1, T3, by omega, by omega, by go_num, by omega, O5.out, by omega⟩
      · have hk0b : ((f j).kd == 0) = false := by simp [hk0]
        by_cases hk1 : (f j).kd = 1
        · rw [hk1] at c0
          have GET := Lib.hid (get_ob tb T k w w2 O2.out hks)
          go_wp2_with fail
          with_reducible refine GET.out.mono ?_
          rintro e w3 ⟨bb, x, T3, rfl, o3, s3⟩
          have O3 := Lib.hid o3
          have ht3 : T3.tot ≤ j + 1 := by have := s3.tot; omega
          have hw3 := s3.w8
          obtain ⟨P, hP⟩ : ∃ P : Int, ((2 ^ T3.nb : Nat) : Int) = P := ⟨_, rfl⟩
          have PL := Lib.hid (places_ob tb T3 w w3 O3.out)
          have hand := and_self_pow T3.nb O3.out.ti.n30
          have h8 : 8 ≤ P := by
            have : 2 ^ 3 ≤ 2 ^ T3.nb := Nat.pow_le_pow_right (by omega) O3.out.ti.n3
            omega
          have h30 : P ≤ 1073741824 := by
            have := pow_le30 O3.out.ti.n30
            omega
          have hq : 4 * (T3.tot : Int) ≤ 3 * P := by
            have := O3.out.ti.cap
            unfold Tab.tot
            omega
          rw [hP] at PL hand
          have ht120 : (T3.tot : Int) ≤ 121 := by omega
          have hw8 : (T3.work : Int) ≤ 8 := by omega
          clear hP c0 c1 c2 c3 c4 c5 c6 hb
          go_wp2_with fail
          with_reducible refine PL.out.mono ?_
          rintro e w4 ⟨rfl, rfl⟩
          go_wp2_with fail
          with_reducible refine (len_ob tb T3 w _ O3.out).mono ?_
          rintro e w5 ⟨rfl, m, rfl⟩
          have O5 := Lib.hid (O3.out.below (below_drewN (Below.refl _ _) m))
          generalize (World.drewN _ m) = w5 at *
          go_wp2_with fail
          with_reducible refine (work_ob tb T3 w _ O5.out).mono ?_
          rintro e w6 ⟨rfl, rfl⟩
          go_wp2_with fail
          with_reducible refine (work_ob tb T3 w _ O5.out).mono ?_
          rintro e w6 ⟨rfl, rfl⟩
          go_wp2_with fail
          go_roundg (len - (j + 1))
          case measure => have := GK.out; omega
          case rel => exact ⟨j + 1, T3, by omega, by omega, by go_num, by omega, O5.out, by omega⟩
        · have hk1b : ((f j).kd == 1) = false := by simp [hk1]
          have DEL := Lib.hid (del_ob tb T k w w2 O2.out hks)
          go_wp2_with fail
          with_reducible refine DEL.out.mono ?_
          rintro e w3 ⟨bb, T3, rfl, o3, s3⟩
          have O3 := Lib.hid o3
          have ht3 : T3.tot ≤ j + 1 := by have := s3.tot; omega
          have hw3 := s3.w8
          obtain ⟨P, hP⟩ : ∃ P : Int, ((2 ^ T3.nb : Nat) : Int) = P := ⟨_, rfl⟩
          have PL := Lib.hid (places_ob tb T3 w w3 O3.out)
          have hand := and_self_pow T3.nb O3.out.ti.n30
          have h8 : 8 ≤ P := by
            have : 2 ^ 3 ≤ 2 ^ T3.nb := Nat.pow_le_pow_right (by omega) O3.out.ti.n3
            omega
          have h30 : P ≤ 1073741824 := by
            have := pow_le30 O3.out.ti.n30
            omega
          have hq : 4 * (T3.tot : Int) ≤ 3 * P := by
            have := O3.out.ti.cap
            unfold Tab.tot
            omega
          rw [hP] at PL hand
          have ht120 : (T3.tot : Int) ≤ 121 := by omega
          have hw8 : (T3.work : Int) ≤ 8 := by omega
          clear hP c0 c1 c2 c3 c4 c5 c6 hb
          go_wp2_with fail
          with_reducible refine PL.out.mono ?_
          rintro e w4 ⟨rfl, rfl⟩
          go_wp2_with fail
          with_reducible refine (len_ob tb T3 w _ O3.out).mono ?_
          rintro e w5 ⟨rfl, m, rfl⟩
          have O5 := Lib.hid (O3.out.below (below_drewN (Below.refl _ _) m))
          generalize (World.drewN _ m) = w5 at *
          go_wp2_with fail
          with_reducible refine (work_ob tb T3 w _ O5.out).mono ?_
          rintro e w6 ⟨rfl, rfl⟩
          go_wp2_with fail
          with_reducible refine (work_ob tb T3 w _ O5.out).mono ?_
          rintro e w6 ⟨rfl, rfl⟩
          go_wp2_with fail
          go_roundg (len - (j + 1))
          case measure => have := GK.out; omega
          case rel => exact ⟨j + 1, T3, by omega, by omega, by go_num, by omega, O5.out, by omega⟩
    · by_cases hjl : j < len
      all_goals
        first
          | (have hj3 : len ≤ j := by omega)
          | (have hj3 : 120 ≤ j := by omega)
        clear hlt
        go_wp2_with fail
        with_reducible refine (awake11 _).mono ?_
        rintro e w3 ⟨rfl, hb3⟩
        have O3 := Lib.hid (O.out.below hb3)
        clear hb3
        go_wp2_with fail
        go_ret
        exact ⟨rfl, O3.out.bel⟩
theorem walkTableWork (v0 : Value) (w : World) (base : Nat)
    (o0 : Value.okWide Try.prog w .any base 32 v0) (r0 : Reads Try.prog w 32 v0.cells.toList) :
    Calls Try.prog 4 #[v0] w fun e w' => e = .returned (.bool true) ∧ Below w.heap.size w w' := by
  obtain ⟨a, len, cap, f, rfl, h1, h2, h3, h4⟩ := arg_ops o0 r0
  exact worklaw a len cap f w h1 h3 h4
set_option maxRecDepth 100000 in
theorem liftedTableWork (os : Os) (started : os.Started) (H : Type) (enc : TypeId × Value → H) :
    ReturnsInHanded {} Try.checked os 4 .any (Rows.tableWorkSpec.pre6 enc Try.prog Try.f4 Rows.tableWorkRow.domain false) (Rows.tableWorkSpec.post enc Try.prog Try.f4 false true false false) := by
  refine returnsInHanded_of_change (C := Try.checked) own started (by kernel_rfl) Try.func4
    (ChangeSpec.witness6 (enc := enc) (C := Try.checked) false ⟨#[], #[.slice none 0 0], []⟩ 8 (by kernel_rfl) (by kernel_rfl) (by kernel_rfl) (by kernel_rfl)) ?_
  intro W base args ds gs before hval0 hW hcnd _
  have hval : ∀ (j : Nat) t v, Try.f4.params[j]? = some t → args[j]? = some v → Value.okWide Try.prog W .any base t v := hval0
  have hW' := hW
  obtain ⟨p, q, hA0, hV, rfl, hfz, hnd⟩ := hW
  have hA : DataW.TrodAll enc Try.prog W 0 (fun _ => true) true Try.f4.params.toList args.toList ds p := hA0
  rw [Try.params4] at hA hval
  obtain ⟨v0, vs0, d0, ds0, p0, q0, hargs, rfl, rfl, h0, r0⟩ := trodAll_cons hA
  obtain ⟨rfl, rfl, rfl⟩ := trodAll_nil r0
  obtain rfl : args = #[v0] := by cases args; simp_all
  obtain ⟨rfl, rfl⟩ := trodVars_none hV
  have lt0 : ∀ x ∈ p0, x.block < W.heap.size := by obtain ⟨m, hm⟩ := h0; exact DataW.trod_lt m _ _ _ hm
  clear hA0 hval0
  refine (walkTableWork v0 W base (hval 0 32 v0 rfl rfl) (Reads.of h0)).mono fun e W' ⟨he, bel⟩ => ?_
  subst he
  exact ⟨_, rfl, _, _, _, [], _, [], hW', trodAll_mk1 (shut_bool Try.underlying4 _), (trodAll_cons_mk (Below.trod laidOut (by kernel_rfl) (of_decide_eq_true (by kernel_rfl)) h0 bel lt0) trodAll_mk0), rfl, bel.frame _, fun h => by cases h⟩

theorem overTableWork : Rows.tableWorkRow.holds Try.pinned (OpenSpec.ofChange Rows.tableWorkSpec) :=
  OpenClaim.holds_of_wide 4 Try.f4 rfl rfl rfl rfl rfl rfl rfl ⟨rfl, rfl, rfl, rfl, rfl⟩ rfl rfl rfl rfl rfl (by kernel_rfl) Try.func4 (by kernel_rfl)
    (of_decide_eq_true (by kernel_rfl)) (by unfold Func.isWrapper; first | (rw [if_pos (by decide +kernel)]; kernel_rfl) | (rw [if_neg (by decide +kernel)]; exact ⟨rfl, rfl⟩))
    (fun os started H enc _ => liftedTableWork os started H enc)

/-- The statement. -/
theorem tableWork_holds : Rows.TableWorkSaid := overTableWork
#print axioms tableWork_holds
end Go.Proofs.Ytkjhofmimggpnaa
