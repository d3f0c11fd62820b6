/-
  The contract of Touch.
-/
import Derived.Test.YtkmlnohccaogjaaSketch
namespace Go.Proofs.Ytkmlnohccaogjaa
open Go.RowKit
theorem Sk.drew {k : IntKind} {w : World} {b : Nat} {c : Nat → Nat} {n : Nat} (h : Sk k w b c n) : Sk k w.drew b c n :=
  ⟨fun i hi => h.1 i hi, h.2.1, fun i => h.2.2 i⟩
theorem grown_drew {w w' : World} {r : Option Nat} (h : w.grownBy w' r) : w.grownBy w'.drew r := ⟨h.os, h.tape, h.output, h.size, h.block⟩
theorem half_le (c : Nat → Nat) (m : Nat) (hc : ∀ j, c j ≤ 15) : ∀ j, half c m j ≤ 15 := by
  intro j
  have := hc j
  unfold half
  split <;> omega
def NoRes (e : Ending) : Prop := e = .returned (.tuple #[])
set_option maxRecDepth 100000 in
set_option maxHeartbeats 1000000 in
theorem touch7 (b : Nat) (h : Int) (c : Nat → Nat) (n : Nat) (w : World) (h0 : 0 ≤ h) (h1 : h < 18446744073709551616) (hs : Sk .u8 w b c n) (hc : ∀ j, c j ≤ 15) (hn : n < 640) :
    Calls Try.prog 7 #[.pointer (some ⟨b, 0, none⟩), .int .u64 h] w fun e w' => NoRes e ∧ Sk .u8 w' b (touchC c n h) (touchN n) ∧ w.grownBy w' (some b) := by
  have HS := Lib.hid hs
  have HC := Lib.hid hc
  clear hs hc
  go_enter Try.func7, Try.ntmps7
  go_wp2_with fail
  go_loopw [4, 5, 10] (fun _ _ i wr => ∃ k : Nat, k ≤ 4 ∧ i = .int .i64 k ∧ Sk .u8 wr b (rowsD c h k) n ∧ w.grownBy wr (some b)) (fun _ _ i _ => 4 - (intOf i).toNat)
  case atStart => exact ⟨0, Nat.zero_le _, rfl, HS.out, World.grownBy.refl _ _⟩
  case round =>
    obtain ⟨k, hk, rfl, hsk, hg⟩ := hrel
    have K := Lib.hid hsk
    have G := Lib.hid hg
    clear hsk hg
    by_cases hlt : k < 4
    · have hr := rowD_rng h k
      go_wp2_with fail
      go_quiet ((go_at_call 13; exact Calls.quiet_of_same ((row11 h k _ h0 h1).mono fun e w' hw => ⟨hw.1, hw.2.symm⟩)))
      have ha : k * 64 + (rowD h (k : Int)).toNat < 256 := idx_lt h k hlt
      have hstep : rowsD c h (k + 1) = bump (rowsD c h k) (k * 64 + (rowD h (k : Int)).toNat) := rfl
      have hle := rowsD_le c h HC.out k
      have KS := Lib.hid (K.out.drewN nq)
      have GS := Lib.hid (grown_drewN G.out nq)
      clear K G
      obtain ⟨c1, hc1⟩ : ∃ c1, rowsD c h (k + 1) = c1 := ⟨_, rfl⟩
      rw [hc1] at hstep
      have HC1 := Lib.hid hc1
      clear hc1
      generalize k * 64 + (rowD h (k : Int)).toNat = a at *
      generalize rowsD c h k = c0 at *
      generalize wr.drewN nq = w1 at *
      have hcell := KS.out.1 a ha
      have hfr := KS.out.2.2 a
      have hv := hle a
      have HST := Lib.hid hstep
      clear hstep hle hr
      by_cases hlt15 : c0 a < 15
      · have e1 : c1 = upd c0 a (c0 a + 1) := by rw [HST.out]; unfold bump; rw [Nat.min_eq_left (by omega)]
        have E1 := Lib.hid e1
        clear e1
        have hcast : ((c0 a : Int) + 1) = ((c0 a + 1 : Nat) : Int) := by omega
        have HCAST := Lib.hid hcast
        clear hcast
        go_wp2_with fail
        go_roundw
        case rel => exact ⟨k + 1, by omega, by go_num, by rw [HC1.out, E1.out, HCAST.out]; exact KS.out.setC a _ ha, grown_set GS.out⟩
        case measure => simp [intOf]; omega
      · have e1 : c1 = c0 := by
          rw [HST.out]; funext j; unfold bump upd
          split
          · subst_vars; omega
          · rfl
        have E1 := Lib.hid e1
        clear e1
        go_wp2_with fail
        go_roundw
        case rel => exact ⟨k + 1, by omega, by go_num, by rw [HC1.out, E1.out]; exact KS.out, GS.out⟩
        case measure => simp [intOf]; omega
    · obtain rfl : k = 4 := by omega
      have hN := K.out.2.1
      have hF := K.out.2.2 256
      have hle := rowsD_le c h HC.out 4
      obtain ⟨c0, hc0⟩ : ∃ c0, rowsD c h 4 = c0 := ⟨_, rfl⟩
      have HC0 := Lib.hid hc0
      rw [hc0] at K hle
      clear hc0
      have HLE := Lib.hid hle
      clear hle
      by_cases hn1 : n + 1 < 640
      · have hfin : touchC c n h = c0 ∧ touchN n = n + 1 := by unfold touchC touchN; rw [if_pos hn1, if_pos hn1]; exact ⟨HC0.out, rfl⟩
        have HFIN := Lib.hid hfin
        clear hfin
        go_wp2_with fail
        refine bodyPost_ret (results_none rfl _ _ _) rfl ?_
        exact ⟨rfl, by rw [HFIN.out.1, HFIN.out.2]; exact K.out.setN (n + 1), grown_set G.out⟩
      · obtain rfl : n = 639 := by omega
        have hfin : touchC c 639 h = half c0 256 ∧ touchN 639 = 320 := by unfold touchC touchN; rw [if_neg hn1, if_neg hn1, HC0.out]; exact ⟨rfl, rfl⟩
        have HFIN := Lib.hid hfin
        clear hfin hn1
        go_wp2_with fail
        have K1 := Lib.hid ((K.out.setN 640).setN 320)
        have G1 := Lib.hid (grown_set (i := 256) (v := .int .i64 320) (grown_set (i := 256) (v := .int .i64 640) G.out))
        obtain ⟨w1, hw1⟩ : ∃ w1, (wr.setCell ⟨b, 256, none⟩ (.int .i64 640)).setCell ⟨b, 256, none⟩ (.int .i64 320) = w1 := ⟨_, rfl⟩
        have K2 := Lib.hid (show Sk .u8 w1 b c0 320 from hw1 ▸ K1.out)
        have G2 := Lib.hid (show w.grownBy w1 (some b) from hw1 ▸ G1.out)
        rw [hw1]
        clear hw1 hN hF K G K1 G1
        go_loopw [6, 7, 51, 54] (fun _ _ i _ wq => ∃ k : Nat, k ≤ 4 ∧ i = .int .i64 k ∧ Sk .u8 wq b (half c0 (k * 64)) 320 ∧ w.grownBy wq (some b)) (fun _ _ i _ _ => 4 - (intOf i).toNat)
        case atStart => exact ⟨0, Nat.zero_le _, rfl, by rw [Nat.zero_mul, half_zero]; exact K2.out, G2.out⟩
        case round =>
          obtain ⟨k, hk, rfl, hsk, hg⟩ := hrel
          have K := Lib.hid hsk
          have G := Lib.hid hg
          clear hsk hg
          by_cases hlt : k < 4
          · go_wp2_with fail
            go_loopw [7, 54] (fun _ i wq => ∃ q : Nat, q ≤ 64 ∧ i = .int .i64 q ∧ Sk .u8 wq b (half c0 (k * 64 + q)) 320 ∧ w.grownBy wq (some b)) (fun _ i _ => 64 - (intOf i).toNat)
            case atStart => exact ⟨0, Nat.zero_le _, rfl, K.out, G.out⟩
            case round =>
              obtain ⟨q, hq, rfl, hsk, hg⟩ := hrel
              have K := Lib.hid hsk
              have G := Lib.hid hg
              clear hsk hg
              by_cases hlq : q < 64
              · have ha : k * 64 + q < 256 := by omega
                have hcell := K.out.1 (k * 64 + q) ha
                have hfr := K.out.2.2 (k * 64 + q)
                go_wp2_with fail
                go_region
                go_wp2_with fail
                go_roundw
                case rel =>
                  refine ⟨q + 1, by omega, by go_num, ?_, grown_drew (grown_set G.out)⟩
                  have hv := half_le c0 (k * 64 + q) HLE.out (k * 64 + q)
                  rw [show ((half c0 (k * 64 + q) (k * 64 + q) : Nat) : Int) / 2 % 256 = ((half c0 (k * 64 + q) (k * 64 + q) / 2 : Nat) : Int) from by omega]
                  rw [show k * 64 + (q + 1) = (k * 64 + q) + 1 from by omega, half_succ]
                  exact (K.out.setC _ _ ha).drew
                case measure => simp [intOf]; omega
              · obtain rfl : q = 64 := by omega
                go_wp2_with fail
                go_roundw
                case rel => exact ⟨k + 1, by omega, by go_num, by rw [Nat.succ_mul]; exact K.out, G.out⟩
                case measure => simp [intOf]; omega
          · obtain rfl : k = 4 := by omega
            go_wp2_with fail
            go_end0
            exact ⟨rfl, by rw [HFIN.out.1, HFIN.out.2]; exact K.out, G.out⟩
end Go.Proofs.Ytkmlnohccaogjaa
