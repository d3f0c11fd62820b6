/-
  Contracts of the functions of package keyhash and of its reference: what each computes, for every argument.
-/
import Derived.Test.YtkmlnohccaogjaaBase
namespace Go.Proofs.Ytkmlnohccaogjaa
open Go.RowKit
/-- one step of the hash, in the walk's own form -/
def hstep (h x : Int) : Int := IntKind.u64.wrap (bits BinOp.xor IntKind.u64 h (IntKind.u64.wrap x) * 1099511628211)
def hinit : Int := 14695981039346656037
def hf (zs : List Int) : Nat → Int
  | 0 => hinit
  | k + 1 => hstep (hf zs k) (zs[k]?.getD 0)
def hm (h m : Int) : Int := IntKind.u64.wrap (bits BinOp.xor IntKind.u64 h (h / 8589934592) * m)
def hl (h : Int) : Int := bits BinOp.xor IntKind.u64 h (h / 8589934592)
def hfin (h : Int) : Int := hl (hm (hm h 18397679294719823053) 14181476777654086739)

/-- what Home computes -/
def homeD (h n : Int) : Int := if 1 ≤ n ∧ n ≤ 30 then wrap64 (h / 2 ^ (64 - n).toNat) else 0
/-- what Row computes -/
def rowD (h n : Int) : Int := if 0 ≤ n ∧ n < 4 then h / 2 ^ (6 * n).toNat % 64 else 0
theorem div_rng (h : Int) (m : Nat) (h0 : 0 ≤ h) (h1 : h < 18446744073709551616) : 0 ≤ h / 2 ^ m ∧ h / 2 ^ m < 18446744073709551616 := by
  have hp : (0 : Int) < 2 ^ m := Int.pow_pos (by omega)
  exact ⟨Int.ediv_nonneg h0 (Int.le_of_lt hp), Int.lt_of_le_of_lt (Int.ediv_le_self _ h0) h1⟩
theorem and63 (x : Int) (h0 : 0 ≤ x) (h1 : x < 18446744073709551616) : bits BinOp.and IntKind.u64 x 63 = x % 64 := by
  rw [u64_and x 63 h0 h1 (by omega) (by omega)]
  rw [show ((63 : Int).toNat) = 2 ^ 6 - 1 from rfl, Nat.and_two_pow_sub_one_eq_mod]
  omega
set_option maxHeartbeats 400000 in
theorem row11 (h n : Int) (w : World) (h0 : 0 ≤ h) (h1 : h < 18446744073709551616) :
    Calls Try.prog 13 #[.int .u64 h, .int .i64 n] w fun e w' => e = .returned (.int .i64 (rowD h n)) ∧ w = w' := by
  by_cases n1 : n < 0
  · have e : rowD h n = 0 := by unfold rowD; rw [if_neg (by omega)]
    have E := Lib.hid e; clear e
    have d1 : decide (n < 0) = true := by simp; omega
    go_enter Try.func13, Try.ntmps13
    go_wp2
    go_ret
    exact ⟨by rw [E.out]; rfl, rfl⟩
  by_cases n2 : 4 ≤ n
  · have e : rowD h n = 0 := by unfold rowD; rw [if_neg (by omega)]
    have E := Lib.hid e; clear e
    have d1 : decide (n < 0) = false := by simp; omega
    have d2 : decide (4 ≤ n) = true := by simp; omega
    go_enter Try.func13, Try.ntmps13
    go_wp2
    go_ret
    exact ⟨by rw [E.out]; rfl, rfl⟩
  have hr := div_rng h (6 * n).toNat h0 h1
  have e : rowD h n = wrap64 (bits BinOp.and IntKind.u64 (h / 2 ^ (6 * n).toNat) 63) := by
    unfold rowD; rw [if_pos (by omega), and63 _ hr.1 hr.2, IntWalk.wrap64_in _ ⟨by omega, by omega⟩]
  have E := Lib.hid e; clear e hr
  have d1 : decide (n < 0) = false := by simp; omega
  have d2 : decide (4 ≤ n) = false := by simp; omega
  go_enter Try.func13, Try.ntmps13
  go_wp2
  go_ret
  exact ⟨by rw [E.out]; rfl, rfl⟩
set_option maxHeartbeats 400000 in
theorem row13 (h n : Int) (w : World) (h0 : 0 ≤ h) (h1 : h < 18446744073709551616) :
    Calls Try.prog 14 #[.int .u64 h, .int .i64 n] w fun e w' => e = .returned (.int .i64 (rowD h n)) ∧ w = w' := by
  by_cases n1 : n < 0
  · have e : rowD h n = 0 := by unfold rowD; rw [if_neg (by omega)]
    have E := Lib.hid e; clear e
    have d1 : decide (n < 0) = true := by simp; omega
    go_enter Try.func14, Try.ntmps14
    go_wp2
    go_ret
    exact ⟨by rw [E.out]; rfl, rfl⟩
  by_cases n2 : 3 < n
  · have e : rowD h n = 0 := by unfold rowD; rw [if_neg (by omega)]
    have E := Lib.hid e; clear e
    have d1 : decide (n < 0) = false := by simp; omega
    have d2 : decide (3 < n) = true := by simp; omega
    go_enter Try.func14, Try.ntmps14
    go_wp2
    go_ret
    exact ⟨by rw [E.out]; rfl, rfl⟩
  have hr := div_rng h (6 * n).toNat h0 h1
  have e : rowD h n = wrap64 ((h / 2 ^ (6 * n).toNat).tmod 64) := by
    unfold rowD; rw [if_pos (by omega), Int.tmod_eq_emod_of_nonneg hr.1, IntWalk.wrap64_in _ ⟨by omega, by omega⟩]
  have E := Lib.hid e; clear e hr
  have d1 : decide (n < 0) = false := by simp; omega
  have d2 : decide (3 < n) = false := by simp; omega
  go_enter Try.func14, Try.ntmps14
  go_wp2
  go_ret
  exact ⟨by rw [E.out]; rfl, rfl⟩
end Go.Proofs.Ytkmlnohccaogjaa
