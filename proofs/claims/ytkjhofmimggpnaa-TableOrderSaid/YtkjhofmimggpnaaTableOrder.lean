/-
  TableOrder: Pairs is in strictly ascending order of the keys, for any keys, and Get finds every one of them. No condition.
-/
import Derived.Test.YtkjhofmimggpnaaCutK
import Derived.Test.YtkjhofmimggpnaaTabPairs
import Derived.Test.YtkjhofmimggpnaaNeqT
import Derived.Test.YtkjhofmimggpnaaTabRead
import Derived.Deep.RegionHeld3
namespace Go.Proofs.Ytkjhofmimggpnaa
open Go.RowKit Go.Maps Go.ChangeShapes Go.WideShapes Go.ChangeAt
set_option linter.unusedVariables false
set_option maxRecDepth 100000 in
set_option maxHeartbeats 8000000 in
theorem orderlaw16 (a : Option Addr) (len cap : Nat) (ks : List ByteArray) (w : World) (hc : len ≤ 9223372036854775807) (hlen : ks.length = len) (hv : Vals w a (ks.map Value.string)) (hks : ∀ k ∈ ks, k.size ≤ maxLen) :
    Calls Try.prog 6 #[.slice a len cap] w fun e w' => e = .returned (.bool true) ∧ Below w.heap.size w w' := by
  have HV := Lib.hid hv
  have KS := Lib.hid (fun i (hi : i < len) => by
    have := all_getD (d := ByteArray.empty) hks i (by omega)
    unfold maxLen at this
    exact this)
  have HLEN := Lib.hid hlen
  clear hv hks hlen
  go_enter Try.func6, Try.ntmps6
  go_wp2_with fail
  with_reducible refine (new_ob _).mono ?_
  rintro e w1 ⟨tb, T1, rfl, o1, n1, m1⟩
  have O1 := Lib.hid o1
  clear o1 m1
  go_wp2_with fail
  go_loopg [4] len (fun gk iv wr => ∃ (j : Nat) (T : Tab), j ≤ len ∧ j ≤ 20 ∧ iv = .int .i64 j ∧ gk + j = len ∧ Tob w wr tb T ∧ T.tot ≤ j)
  case atStart => exact ⟨0, T1, by omega, by omega, rfl, by omega, O1.out, by omega⟩
  case round =>
    obtain ⟨j, T, hj, hj20, rfl, hgk, ot, htot⟩ := hrel
    have O := Lib.hid ot
    have GK := Lib.hid hgk
    clear ot hgk O1
    by_cases hlt : j < len ∧ j < 20
    · obtain ⟨hlt, hlt20⟩ := hlt
      obtain ⟨kj, hkj⟩ : ∃ k, ks[j]?.getD ByteArray.empty = k := ⟨_, rfl⟩
      obtain ⟨b, off, rfl, hb, c0⟩ := (HV.out.below O.out.bel (Nat.le_refl _)).str j (by have := HLEN.out; omega)
      rw [hkj] at c0
      have hsz := KS.out j hlt
      rw [hkj] at hsz
      have hltI : (j : Int) < len := by omega
      obtain ⟨fj, hfj⟩ : ∃ k, cutK kj = k := ⟨_, rfl⟩
      have SET := Lib.hid (set_ob tb T fj ⟨0, (j : Int), 0, 0, false⟩ w wr.drew (O.out.below (Below.refl _ _).drew) (by have := cutK_size kj; rw [hfj] at this; omega) (by omega))
      unfold entV at SET
      rcases cut_cases kj with ⟨h30, hcut⟩ | ⟨h30, hcut⟩
      all_goals
        rw [hcut] at hfj
        rw [← hfj] at SET
        have HKJ := Lib.hid hkj
        have CD := Lib.hid (show wr.drew.cell? ⟨b, off + j, none⟩ = some (.string kj) from c0)
        first
          | (have hb31 : (30 : Int) ≤ (kj.size : Int) := by omega
             have hb37 : min (kj.size : Int) 30 = 30 := by omega
             have hb39 : min kj.size 30 = 30 := by omega)
          | (have hb31 : ¬ (30 : Int) < (kj.size : Int) := by omega
             have hb32 : (if (30 : Int) < (kj.size : Int) then (30 : Int) else (kj.size : Int)) = (kj.size : Int) := if_neg hb31
             have hb33 : decide ((30 : Int) < (kj.size : Int)) = false := decide_eq_false hb31
             have hb34 : ¬ (kj.size : Int) < 0 := by omega
             have hb35 : ¬ kj.size < kj.size := by omega
             have hb37 : min (kj.size : Int) 30 = (kj.size : Int) := by omega
             have hb39 : min kj.size 30 = kj.size := by omega)
        clear hfj hcut hkj
        go_wp2_with fail
        have KC := Lib.hid (show ∀ W, Below w.heap.size w W → W.cell? ⟨b, off + j, none⟩ = some (.string kj) from fun W hW => by
          obtain ⟨b', off', hab, hb', c0'⟩ := (HV.out.below hW (Nat.le_refl _)).str j (by have := HLEN.out; omega)
          cases hab
          rw [HKJ.out] at c0'
          exact c0')
        go_region_held3 (fun w' => w'.cell? ⟨b, off + j, none⟩ = some (.string kj)) (first | (with_reducible assumption) | (exact CD.out) | (exact hS3))
          (first
            | (go_at_call 9; (with_reducible refine SET.out.mono ?_); rintro e3 w3 ⟨rfl, T3, o3, s3⟩; have hS3 := KC.out w3 o3.bel))
        all_goals
          have O3 := Lib.hid o3
          have ht3 : T3.tot ≤ j + 1 := by rcases s3.tot with ⟨_, h⟩ | ⟨_, h⟩ <;> omega
          clear o3 s3 SET c0 hb h30 hS3
          go_wp2_with fail
          go_roundg (len - (j + 1))
          case measure => have := GK.out; omega
          case rel => exact ⟨j + 1, T3, by omega, by omega, by go_num, by omega, O3.out, ht3⟩
    · by_cases hkl : j < len
      all_goals
        have hex : ¬ (j < len ∧ j < 20) := hlt
        first
          | (have h50 : 20 ≤ j := by omega)
          | (have h50 : len ≤ j := by omega)
        clear hlt hex
        go_wp2_with fail
        with_reducible refine (pairs_ob tb T w wr O.out).mono ?_
        rintro e w2 ⟨pv, qs, rfl, hp⟩
        obtain ⟨pa, pc, n, rfl, hqn, htb, hasc, hperm⟩ := hp
        have HT := Lib.hid htb
        have HA := Lib.hid hasc
        have HP := Lib.hid hperm
        have HQ := Lib.hid hqn
        have TIH := Lib.hid htb.ti
        have hn20 : n ≤ 20 := by
          have h1 := hperm.length_eq
          have h2 := prs_length htb.ti
          unfold Tab.tot at htot
          omega
        have HTOT := Lib.hid (show T.tot = n from by
          have h1 := hperm.length_eq
          have h2 := prs_length htb.ti
          unfold Tab.tot
          omega)
        clear hqn htb hasc hperm
        go_wp2_with fail
        go_loopg [6, 7, 8, 39] n (fun gk _ _ _ iv wr' => ∃ (i : Nat) (T' : Tab), i ≤ n ∧ iv = .int .i64 i ∧ gk + i = n ∧ Tbr w wr' tb T' pa qs ∧ T'.tot = n ∧ Hid (∀ k e, Has T' k e ↔ Has T k e))
        case atStart => exact ⟨0, T, by omega, rfl, by omega, HT.out, HTOT.out, Lib.hid (fun _ _ => Iff.rfl)⟩
        case round =>
          obtain ⟨i, T', hi, rfl, hgk2, ht', htot', hh⟩ := hrel
          have GK2 := Lib.hid hgk2
          have D := Lib.hid ht'
          clear hgk2 ht' HT
          by_cases hlt2 : i < n
          · obtain ⟨x, hx⟩ : ∃ x, qs[i]? = some x := ⟨_, List.getElem?_eq_getElem (by have := HQ.out; omega)⟩
            obtain ⟨g, off, rfl, hg, q0, q1, q2, q3, q4, q5⟩ := D.out.vals.pair i x hx
            have hxm := HP.out.mem_iff.1 (List.mem_of_getElem? hx)
            have HXM := Lib.hid hxm
            have GET := Lib.hid (tbr_get tb T' (some ⟨g, off, none⟩) qs x.key w wr wr D.out (Below.refl _ _) (by have := TIH.out.ks _ _ (mem_prs.1 hxm); exact this))
            have hii : (i : Int) < n := by omega
            have HX := Lib.hid hx
            clear hxm hx
            go_wp2_with fail
            with_reducible refine GET.out.mono ?_
            rintro e w3 ⟨bb, y, T3, rfl, d3, s3⟩
            obtain ⟨rfl, rfl⟩ := get_pair TIH.out hh.out s3 HXM.out
            have HH3 := Lib.hid (show ∀ k e, Has T3 k e ↔ Has T k e from fun k e => (s3.has k e).trans (hh.out k e))
            have ht3 : T3.tot = n := s3.tot.trans htot'
            have D3 := Lib.hid (d3.below ((Below.refl w3.heap.size w3).alloc (Nat.le_refl _) (.cells #[.int .i64 x.en.seq, .int .i64 x.en.off, .int .i64 x.en.len, .int .i64 x.en.exp, .bool x.en.hit] 27)))
            obtain ⟨g', off', hab, hg', r0, r1, r2, r3, r4, r5⟩ := d3.vals.pair i x HX.out
            cases hab
            have ne := neqEn x.en
            clear q0 q1 q2 q3 q4 q5 hg d3 s3 GET
            by_cases hi0 : i = 0
            · subst hi0
              go_wp2_with fail
              go_quiet (fail)
              have D4 := Lib.hid (D3.out.below (below_drewN (Below.refl _ _) nq))
              go_wp2_with fail
              go_roundg (n - (0 + 1))
              case measure => have := GK2.out; omega
              case rel => exact ⟨0 + 1, T3, by omega, by go_num, by omega, D4.out, ht3, HH3⟩
            · obtain ⟨i', rfl⟩ : ∃ i', i = i' + 1 := ⟨i - 1, by omega⟩
              obtain ⟨z, hz⟩ : ∃ z, qs[i']? = some z := ⟨_, List.getElem?_eq_getElem (by have := HQ.out; omega)⟩
              obtain ⟨g', off', hab, hg'', s0, -, -, -, -, -⟩ := D3.out.vals.pair i' z hz
              cases hab
              have hls : Op.bytesLess z.key.toList x.key.toList = true := by
                have := List.pairwise_iff_getElem.1 HA.out i' (i' + 1) (by have := HQ.out; omega) (by have := HQ.out; omega) (by omega)
                have h1 := HX.out
                rw [List.getElem?_eq_getElem (by have := HQ.out; omega)] at h1 hz
                injection h1 with h1
                injection hz with hz
                rw [← h1, ← hz]
                exact this
              have hpos : (0 : Int) < ((i' + 1 : Nat) : Int) := by omega
              have hsub : ((i' + 1 : Nat) : Int) - 1 = (i' : Int) := by omega
              have hii' : (i' : Int) < n := by omega
              clear hz
              go_wp2_with fail
              go_quiet (fail)
              have D4 := Lib.hid (D3.out.below (below_drewN (Below.refl _ _) nq))
              go_wp2_with fail
              go_roundg (n - (i' + 1 + 1))
              case measure => have := GK2.out; omega
              case rel => exact ⟨i' + 1 + 1, T3, by omega, by go_num, by omega, D4.out, ht3, HH3⟩
          · obtain rfl : i = n := by omega
            have LN := Lib.hid (fun (W : World) (hW : Below wr.heap.size wr W) => show Calls Try.prog 15 #[.pointer (some ⟨tb, 0, none⟩)] W fun e' w' => e' = .returned (.int .i64 (i : Int)) ∧ Below W.heap.size W w' from by
              rw [← htot']
              refine (tbr_len tb T' pa qs w W (D.out.below hW)).mono ?_
              rintro e' w' ⟨rfl, m, rfl⟩
              exact ⟨rfl, below_drewN (Below.refl _ _) m⟩)
            go_wp2_with fail
            with_reducible refine (awake11 _).mono ?_
            rintro e w3 ⟨rfl, hb3⟩
            have LN3 := Lib.hid (LN.out w3 hb3)
            have hb3' := Lib.hid hb3
            clear hb3
            go_wp2_with fail
            with_reducible refine LN3.out.mono ?_
            rintro e w4 ⟨rfl, hb4⟩
            have hfin := Lib.hid (show Below w.heap.size w w4 from bel_trans (bel_trans D.out.bel (hb3'.out)) hb4)
            go_wp2_with fail
            go_ret
            exact ⟨rfl, hfin.out⟩
theorem walkTableOrder (v0 : Value) (w : World) (base : Nat)
    (o0 : Value.okWide Try.prog w .any base 22 v0) (r0 : Reads Try.prog w 22 v0.cells.toList) :
    Calls Try.prog 6 #[v0] w fun e w' => e = .returned (.bool true) ∧ Below w.heap.size w w' := by
  obtain ⟨a, len, cap, ks, rfl, h1, h2, h3, h4, h5, h6⟩ := arg_strs Try.underlying22 Try.underlying9 (by kernel_rfl) o0 r0
  exact orderlaw16 a len cap ks w (by unfold maxLen at h2; omega) h4 h5 h6
set_option maxRecDepth 100000 in
theorem liftedTableOrder (os : Os) (started : os.Started) (H : Type) (enc : TypeId × Value → H) :
    ReturnsInHanded {} Try.checked os 6 .any (Rows.tableOrderSpec.pre6 enc Try.prog Try.f6 Rows.tableOrderRow.domain false) (Rows.tableOrderSpec.post enc Try.prog Try.f6 false true false false) := by
  refine returnsInHanded_of_change (C := Try.checked) own started (by kernel_rfl) Try.func6
    (ChangeSpec.witness6 (enc := enc) (C := Try.checked) false ⟨#[], #[.slice none 0 0], []⟩ 8 (by kernel_rfl) (by kernel_rfl) (by kernel_rfl) (by kernel_rfl)) ?_
  intro W base args ds gs before hval0 hW hcnd _
  have hval : ∀ (j : Nat) t v, Try.f6.params[j]? = some t → args[j]? = some v → Value.okWide Try.prog W .any base t v := hval0
  have hW' := hW
  obtain ⟨p, q, hA0, hV, rfl, hfz, hnd⟩ := hW
  have hA : DataW.TrodAll enc Try.prog W 0 (fun _ => true) true Try.f6.params.toList args.toList ds p := hA0
  rw [Try.params6] at hA hval
  obtain ⟨v0, vs0, d0, ds0, p0, q0, hargs, rfl, rfl, h0, r0⟩ := trodAll_cons hA
  obtain ⟨rfl, rfl, rfl⟩ := trodAll_nil r0
  obtain rfl : args = #[v0] := by cases args; simp_all
  obtain ⟨rfl, rfl⟩ := trodVars_none hV
  have lt0 : ∀ x ∈ p0, x.block < W.heap.size := by obtain ⟨m, hm⟩ := h0; exact DataW.trod_lt m _ _ _ hm
  clear hA0 hval0
  refine (walkTableOrder v0 W base (hval 0 22 v0 rfl rfl) (Reads.of h0)).mono fun e W' ⟨he, bel⟩ => ?_
  subst he
  exact ⟨_, rfl, _, _, _, [], _, [], hW', trodAll_mk1 (shut_bool Try.underlying4 _), (trodAll_cons_mk (Below.trod laidOut (by kernel_rfl) (of_decide_eq_true (by kernel_rfl)) h0 bel lt0) trodAll_mk0), rfl, bel.frame _, fun h => by cases h⟩

theorem overTableOrder : Rows.tableOrderRow.holds Try.pinned (OpenSpec.ofChange Rows.tableOrderSpec) :=
  OpenClaim.holds_of_wide 6 Try.f6 rfl rfl rfl rfl rfl rfl rfl ⟨rfl, rfl, rfl, rfl, rfl⟩ rfl rfl rfl rfl rfl (by kernel_rfl) Try.func6 (by kernel_rfl)
    (of_decide_eq_true (by kernel_rfl)) (by unfold Func.isWrapper; first | (rw [if_pos (by decide +kernel)]; kernel_rfl) | (rw [if_neg (by decide +kernel)]; exact ⟨rfl, rfl⟩))
    (fun os started H enc _ => liftedTableOrder os started H enc)

/-- The statement. -/
theorem tableOrder_holds : Rows.TableOrderSaid := overTableOrder
#print axioms tableOrder_holds
