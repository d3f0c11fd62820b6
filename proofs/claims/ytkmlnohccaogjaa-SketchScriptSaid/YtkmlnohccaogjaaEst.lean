/-
  The contracts of New, Estimate, Touches and of the reference's Estimate.
-/
import Derived.Test.YtkmlnohccaogjaaRefTouch
namespace Go.Proofs.Ytkmlnohccaogjaa
open Go.RowKit
/-- the least of the first r counters of a hash, and at most 15 -/
def estD (c : Nat → Nat) (h : Int) : Nat → Nat
  | 0 => 15
  | r + 1 => min (estD c h r) (c (idx h r))
theorem estD_le (c : Nat → Nat) (h : Int) (r : Nat) : estD c h r ≤ 15 := by
  induction r with
  | zero => exact Nat.le_refl _
  | succ r ih => unfold estD; omega
set_option maxHeartbeats 1000000 in
theorem est10 (b : Nat) (h : Int) (c : Nat → Nat) (n : Nat) (w : World) (h0 : 0 ≤ h) (h1 : h < 18446744073709551616) (hs : Sk .u8 w b c n) (hc : ∀ j, c j ≤ 15) :
    Calls Try.prog 10 #[.pointer (some ⟨b, 0, none⟩), .int .u64 h] w fun e w' => e = .returned (.int .i64 (estD c h 4 : Int)) ∧ ∃ m, w' = w.drewN m := by
  have HS := Lib.hid hs
  have HC := Lib.hid hc
  clear hs hc
  go_enter Try.func10, Try.ntmps10
  go_wp2_with fail
  go_loopw [5, 6, 9] (fun e _ i wr => ∃ k : Nat, k ≤ 4 ∧ i = .int .i64 k ∧ e = .int .i64 (estD c h k : Int) ∧ ∃ m, wr = w.drewN m) (fun _ _ i _ => 4 - (intOf i).toNat)
  case atStart => exact ⟨0, Nat.zero_le _, rfl, rfl, 0, rfl⟩
  case round =>
    obtain ⟨k, hk, rfl, rfl, hm⟩ := hrel
    have HM := Lib.hid hm
    have K := Lib.hid (show Sk .u8 wr b c n from by obtain ⟨m, rfl⟩ := hm; exact HS.out.drewN m)
    clear hm
    by_cases hlt : k < 4
    · have hr := rowD_rng h k
      have ha : k * 64 + (rowD h (k : Int)).toNat < 256 := idx_lt h k hlt
      have hstep : estD c h (k + 1) = min (estD c h k) (c (k * 64 + (rowD h (k : Int)).toNat)) := rfl
      have hcell := K.out.1 (k * 64 + (rowD h (k : Int)).toNat) ha
      obtain ⟨e1, he1⟩ : ∃ e1, estD c h (k + 1) = e1 := ⟨_, rfl⟩
      rw [he1] at hstep
      have HE1 := Lib.hid he1
      clear he1
      have hle := estD_le c h k
      have hcv := HC.out (k * 64 + (rowD h (k : Int)).toNat)
      generalize estD c h k = e0 at *
      obtain ⟨q, hq⟩ : ∃ q : Nat, rowD h (k : Int) = (q : Int) := Int.eq_ofNat_of_zero_le hr.1
      have HR := Lib.hid (row11 h k)
      rw [hq] at HR hr ha hstep hcell hcv
      rw [Int.toNat_natCast] at ha hstep hcell hcv
      clear hq
      generalize c (k * 64 + q) = v at *
      have HST := Lib.hid hstep
      clear hstep
      by_cases hmin : e0 ≤ v
      · have hmi : (e0 : Int) ≤ (v : Int) := by omega
        have e2 : e1 = e0 := by rw [HST.out]; omega
        have E2 := Lib.hid e2
        clear e2
        go_wp2_with fail
        go_quiet ((go_at_call 13; exact Calls.quiet_of_same ((HR.out _ h0 h1).mono fun e w' hw => ⟨hw.1, hw.2.symm⟩)))
        go_wp2_with fail
        go_roundw
        case rel => exact ⟨k + 1, by omega, by go_num, by rw [HE1.out, E2.out], by obtain ⟨m, hm⟩ := HM.out; exact ⟨m + nq, by rw [hm, World.drewN_drewN]⟩⟩
        case measure => simp [intOf]; omega
      · have hmi : (v : Int) < (e0 : Int) := by omega
        have e2 : e1 = v := by rw [HST.out]; omega
        have E2 := Lib.hid e2
        clear e2
        go_wp2_with fail
        go_quiet ((go_at_call 13; exact Calls.quiet_of_same ((HR.out _ h0 h1).mono fun e w' hw => ⟨hw.1, hw.2.symm⟩)))
        go_wp2_with fail
        go_roundw
        case rel => exact ⟨k + 1, by omega, by go_num, by rw [HE1.out, E2.out], by obtain ⟨m, hm⟩ := HM.out; exact ⟨m + nq, by rw [hm, World.drewN_drewN]⟩⟩
        case measure => simp [intOf]; omega
    · obtain rfl : k = 4 := by omega
      go_wp2_with fail
      go_ret
      exact ⟨rfl, HM.out⟩
set_option maxHeartbeats 1000000 in
theorem refest11 (b : Nat) (h : Int) (c : Nat → Nat) (n : Nat) (w : World) (h0 : 0 ≤ h) (h1 : h < 18446744073709551616) (hs : Sk .i64 w b c n) (hc : ∀ j, c j ≤ 15) :
    Calls Try.prog 11 #[.pointer (some ⟨b, 0, none⟩), .int .u64 h] w fun e w' => e = .returned (.int .i64 (estD c h 4 : Int)) ∧ ∃ m, w' = w.drewN m := by
  have HS := Lib.hid hs
  have HC := Lib.hid hc
  clear hs hc
  go_enter Try.func11, Try.ntmps11
  go_wp2_with fail
  go_loopw [5, 6] (fun e i wr => ∃ k : Nat, k ≤ 4 ∧ i = .int .i64 k ∧ e = .int .i64 (estD c h k : Int) ∧ ∃ m, wr = w.drewN m) (fun _ i _ => 4 - (intOf i).toNat)
  case atStart => exact ⟨0, Nat.zero_le _, rfl, rfl, 0, rfl⟩
  case round =>
    obtain ⟨k, hk, rfl, rfl, hm⟩ := hrel
    have HM := Lib.hid hm
    have K := Lib.hid (show Sk .i64 wr b c n from by obtain ⟨m, rfl⟩ := hm; exact HS.out.drewN m)
    clear hm
    by_cases hlt : k < 4
    · have hr := rowD_rng h k
      have ha : k * 64 + (rowD h (k : Int)).toNat < 256 := idx_lt h k hlt
      have hstep : estD c h (k + 1) = min (estD c h k) (c (k * 64 + (rowD h (k : Int)).toNat)) := rfl
      have hcell := K.out.1 (k * 64 + (rowD h (k : Int)).toNat) ha
      obtain ⟨e1, he1⟩ : ∃ e1, estD c h (k + 1) = e1 := ⟨_, rfl⟩
      rw [he1] at hstep
      have HE1 := Lib.hid he1
      clear he1
      have hle := estD_le c h k
      have hcv := HC.out (k * 64 + (rowD h (k : Int)).toNat)
      generalize estD c h k = e0 at *
      obtain ⟨q, hq⟩ : ∃ q : Nat, rowD h (k : Int) = (q : Int) := Int.eq_ofNat_of_zero_le hr.1
      have HR := Lib.hid (row13 h k)
      rw [hq] at HR hr ha hstep hcell hcv
      rw [Int.toNat_natCast] at ha hstep hcell hcv
      clear hq
      generalize c (k * 64 + q) = v at *
      have HST := Lib.hid hstep
      clear hstep
      by_cases hmin : e0 ≤ v
      · have hmi : (e0 : Int) ≤ (v : Int) := by omega
        have e2 : e1 = e0 := by rw [HST.out]; omega
        have E2 := Lib.hid e2
        clear e2
        go_wp2_with fail
        go_quiet ((go_at_call 14; exact Calls.quiet_of_same ((HR.out _ h0 h1).mono fun e w' hw => ⟨hw.1, hw.2.symm⟩)))
        go_wp2_with fail
        go_roundw
        case rel => exact ⟨k + 1, by omega, by go_num, by rw [HE1.out, E2.out], by obtain ⟨m, hm⟩ := HM.out; exact ⟨m + nq, by rw [hm, World.drewN_drewN]⟩⟩
        case measure => simp [intOf]; omega
      · have hmi : (v : Int) < (e0 : Int) := by omega
        have e2 : e1 = v := by rw [HST.out]; omega
        have E2 := Lib.hid e2
        clear e2
        go_wp2_with fail
        go_quiet ((go_at_call 14; exact Calls.quiet_of_same ((HR.out _ h0 h1).mono fun e w' hw => ⟨hw.1, hw.2.symm⟩)))
        go_wp2_with fail
        go_roundw
        case rel => exact ⟨k + 1, by omega, by go_num, by rw [HE1.out, E2.out], by obtain ⟨m, hm⟩ := HM.out; exact ⟨m + nq, by rw [hm, World.drewN_drewN]⟩⟩
        case measure => simp [intOf]; omega
    · obtain rfl : k = 4 := by omega
      go_wp2_with fail
      go_ret
      exact ⟨rfl, HM.out⟩
/-- a new sketch's cells -/
def skZ : Array Value := (Array.replicate 256 (Value.int .u8 0)).push (.int .i64 0)
theorem zero_sk (w : World) : (zeroValue 41).run Try.prog w = .ok (.agg skZ) w := by kernel_rfl
theorem skZ_at (i : Nat) (h : i < 256) : skZ[i]? = some (.int .u8 0) := by
  unfold skZ
  rw [Array.getElem?_push, if_neg (by simp; omega)]
  simp [h]
theorem skZ_last : skZ[256]? = some (.int .i64 0) := by
  unfold skZ
  rw [Array.getElem?_push, if_pos (by simp)]
theorem frozen_new (w : World) (cs : Array Value) (t : TypeId) (i : Nat) : (w.alloc (.cells cs t)).frozen? ⟨w.heap.size, i, none⟩ = false := by
  have h : (w.alloc (.cells cs t)).heap[w.heap.size]? = some (.cells cs t (0, 0)) := heap_alloc_new w _
  unfold World.frozen?
  rw [h]
  simp
set_option maxHeartbeats 1000000 in
theorem new6 (w : World) :
    Calls Try.prog 6 #[] w fun e w' => e = .returned (.pointer (some ⟨w.heap.size, 0, none⟩)) ∧ Sk .u8 w' w.heap.size (fun _ => 0) 0 ∧ w.grownBy w' none := by
  have hz := zero_sk
  go_enter Try.func6, Try.ntmps6
  go_wp2_with fail
  go_ret
  refine ⟨rfl, ⟨fun i hi => ?_, ?_, fun i => frozen_new _ _ _ _⟩, World.grownBy_alloc _ _ _⟩
  · rw [World.cell?_alloc_at _ _ _ _ rfl, skZ_at i hi]; rfl
  · rw [World.cell?_alloc_at _ _ _ _ rfl, skZ_last]; rfl
set_option maxHeartbeats 1000000 in
theorem touches9 (b : Nat) (c : Nat → Nat) (n : Nat) (w : World) (hs : Sk .u8 w b c n) :
    Calls Try.prog 9 #[.pointer (some ⟨b, 0, none⟩)] w fun e w' => e = .returned (.int .i64 (n : Int)) ∧ w = w' := by
  have h1 := hs.2.1
  clear hs
  go_enter Try.func9, Try.ntmps9
  go_wp2_with fail
  go_ret
  exact ⟨rfl, rfl⟩
end Go.Proofs.Ytkmlnohccaogjaa
