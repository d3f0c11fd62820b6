/-
  The contract of the reference's Touch.
-/
import Derived.Test.YtkmlnohccaogjaaTouch
namespace Go.Proofs.Ytkmlnohccaogjaa
open Go.RowKit
set_option maxRecDepth 100000 in
set_option maxHeartbeats 1000000 in
theorem reftouch8 (b : Nat) (h : Int) (c : Nat → Nat) (n : Nat) (w : World) (h0 : 0 ≤ h) (h1 : h < 18446744073709551616) (hs : Sk .i64 w b c n) (hc : ∀ j, c j ≤ 15) (hn : n < 640) :
    Calls Try.prog 8 #[.pointer (some ⟨b, 0, none⟩), .int .u64 h] w fun e w' => NoRes e ∧ Sk .i64 w' b (touchC c n h) (touchN n) ∧ w.grownBy w' (some b) := by
  have HS := Lib.hid hs
  have HC := Lib.hid hc
  clear hs hc
  go_enter Try.func8, Try.ntmps8
  go_wp2_with fail
  go_loopw [4, 5] (fun i _ wr => ∃ k : Nat, k ≤ 4 ∧ i = .int .i64 k ∧ Sk .i64 wr b (rowsD c h k) n ∧ w.grownBy wr (some b)) (fun i _ _ => 4 - (intOf i).toNat)
  case atStart => exact ⟨0, Nat.zero_le _, rfl, HS.out, World.grownBy.refl _ _⟩
  case round =>
    obtain ⟨k, hk, rfl, hsk, hg⟩ := hrel
    have K := Lib.hid hsk
    have G := Lib.hid hg
    clear hsk hg
    by_cases hlt : k < 4
    · have hr := rowD_rng h k
      have HR := Lib.hid (row13 h k wr h0 h1)
      have ha : k * 64 + (rowD h (k : Int)).toNat < 256 := idx_lt h k hlt
      have hstep : rowsD c h (k + 1) = bump (rowsD c h k) (k * 64 + (rowD h (k : Int)).toNat) := rfl
      have hle := rowsD_le c h HC.out k
      obtain ⟨c1, hc1⟩ : ∃ c1, rowsD c h (k + 1) = c1 := ⟨_, rfl⟩
      rw [hc1] at hstep
      have HC1 := Lib.hid hc1
      clear hc1
      generalize rowsD c h k = c0 at *
      obtain ⟨q, hq⟩ : ∃ q : Nat, rowD h (k : Int) = (q : Int) := Int.eq_ofNat_of_zero_le hr.1
      rw [hq] at HR hr ha hstep
      rw [Int.toNat_natCast] at ha hstep
      clear hq
      have hcell := K.out.1 (k * 64 + q) ha
      have hfr := K.out.2.2 (k * 64 + q)
      have hv := hle (k * 64 + q)
      have HST := Lib.hid hstep
      clear hstep hle
      go_wp2_with fail
      with_reducible refine HR.out.mono ?_
      rintro e w1 ⟨rfl, rfl⟩
      obtain ⟨v, hv2⟩ : ∃ v, c0 (k * 64 + q) = v := ⟨_, rfl⟩
      have HV := Lib.hid hv2
      rw [hv2] at hcell hv
      clear hv2
      by_cases h15 : v + 1 ≤ 15
      · go_wp2_with fail
        go_region
        go_wp2_with fail
        go_roundw
        case rel =>
          refine ⟨k + 1, by omega, by go_num, ?_, grown_drew (grown_set G.out)⟩
          rw [HC1.out, HST.out, show ((v : Int) + 1) = ((v + 1 : Nat) : Int) from by omega]
          unfold bump
          rw [HV.out, Nat.min_eq_left h15]
          exact (K.out.setC _ _ ha).drew
        case measure => simp [intOf]; omega
      · have h15' : (15 : Int) < (v : Int) + 1 := by omega
        go_wp2_with fail
        go_region
        go_wp2_with fail
        go_roundw
        case rel =>
          refine ⟨k + 1, by omega, by go_num, ?_, grown_drew (grown_set G.out)⟩
          rw [HC1.out, HST.out]
          unfold bump
          rw [HV.out, Nat.min_eq_right (by omega)]
          exact (K.out.setC _ 15 ha).drew
        case measure => simp [intOf]; omega
    · obtain rfl : k = 4 := by omega
      have hN := K.out.2.1
      have hF := K.out.2.2 256
      have hle := rowsD_le c h HC.out 4
      obtain ⟨c0, hc0⟩ : ∃ c0, rowsD c h 4 = c0 := ⟨_, rfl⟩
      have HC0 := Lib.hid hc0
      rw [hc0] at K hle
      clear hc0
      have HLE := Lib.hid hle
      clear hle
      by_cases hn1 : n + 1 < 640
      · have hfin : touchC c n h = c0 ∧ touchN n = n + 1 := by unfold touchC touchN; rw [if_pos hn1, if_pos hn1]; exact ⟨HC0.out, rfl⟩
        have HFIN := Lib.hid hfin
        clear hfin
        have hne : ((n : Int) + 1 == 640) = false := by rw [beq_eq_false_iff_ne]; omega
        go_wp2_with fail
        go_end0
        exact ⟨rfl, by rw [HFIN.out.1, HFIN.out.2]; exact K.out.setN (n + 1), grown_set G.out⟩
      · obtain rfl : n = 639 := by omega
        have hfin : touchC c 639 h = half c0 256 ∧ touchN 639 = 320 := by unfold touchC touchN; rw [if_neg hn1, if_neg hn1, HC0.out]; exact ⟨rfl, rfl⟩
        have HFIN := Lib.hid hfin
        clear hfin hn1
        go_wp2_with fail
        have K1 := Lib.hid (K.out.setN 640)
        have G1 := Lib.hid (grown_set (i := 256) (v := .int .i64 640) G.out)
        obtain ⟨w1, hw1⟩ : ∃ w1, wr.setCell ⟨b, 256, none⟩ (.int .i64 640) = w1 := ⟨_, rfl⟩
        have K2 := Lib.hid (show Sk .i64 w1 b c0 640 from hw1 ▸ K1.out)
        have G2 := Lib.hid (show w.grownBy w1 (some b) from hw1 ▸ G1.out)
        rw [hw1]
        clear hw1 hN hF K G K1 G1
        go_loopw [6, 7] (fun i _ wq => ∃ k : Nat, k ≤ 4 ∧ i = .int .i64 k ∧ Sk .i64 wq b (half c0 (k * 64)) 640 ∧ w.grownBy wq (some b)) (fun i _ _ => 4 - (intOf i).toNat)
        case atStart => exact ⟨0, Nat.zero_le _, rfl, by rw [Nat.zero_mul, half_zero]; exact K2.out, G2.out⟩
        case round =>
          obtain ⟨k, hk, rfl, hsk, hg⟩ := hrel
          have K := Lib.hid hsk
          have G := Lib.hid hg
          clear hsk hg
          by_cases hlt : k < 4
          · go_wp2_with fail
            go_loopw [7] (fun i wq => ∃ q : Nat, q ≤ 64 ∧ i = .int .i64 q ∧ Sk .i64 wq b (half c0 (k * 64 + q)) 640 ∧ w.grownBy wq (some b)) (fun i _ => 64 - (intOf i).toNat)
            case atStart => exact ⟨0, Nat.zero_le _, rfl, K.out, G.out⟩
            case round =>
              obtain ⟨q, hq, rfl, hsk, hg⟩ := hrel
              have K := Lib.hid hsk
              have G := Lib.hid hg
              clear hsk hg
              by_cases hlq : q < 64
              · have ha : k * 64 + q < 256 := by omega
                have hcell := K.out.1 (k * 64 + q) ha
                have hfr := K.out.2.2 (k * 64 + q)
                go_wp2_with fail
                go_region
                go_wp2_with fail
                go_roundw
                case rel =>
                  refine ⟨q + 1, by omega, by go_num, ?_, grown_drew (grown_set G.out)⟩
                  have hv := half_le c0 (k * 64 + q) HLE.out (k * 64 + q)
                  rw [show wrap64 (((half c0 (k * 64 + q) (k * 64 + q) : Nat) : Int) / 2) = ((half c0 (k * 64 + q) (k * 64 + q) / 2 : Nat) : Int) from by rw [IntWalk.wrap64_in _ ⟨by omega, by omega⟩]; omega]
                  rw [show k * 64 + (q + 1) = (k * 64 + q) + 1 from by omega, half_succ]
                  exact (K.out.setC _ _ ha).drew
                case measure => simp [intOf]; omega
              · obtain rfl : q = 64 := by omega
                go_wp2_with fail
                go_roundw
                case rel => exact ⟨k + 1, by omega, by go_num, by rw [Nat.succ_mul]; exact K.out, G.out⟩
                case measure => simp [intOf]; omega
          · obtain rfl : k = 4 := by omega
            have hN := K.out.2.1
            have hF := K.out.2.2 256
            go_wp2_with fail
            go_end0
            exact ⟨rfl, by rw [HFIN.out.1, HFIN.out.2]; exact K.out.setN 320, grown_set G.out⟩
end Go.Proofs.Ytkmlnohccaogjaa
