/-
  Contracts of the functions of package keyhash and of its reference: what each computes, for every argument.
-/
import Derived.Test.YtbfkhghegkiifaaBase
namespace Go.Proofs.Ytbfkhghegkiifaa
open Go.RowKit
/-- one step of the hash, in the walk's own form -/
def hstep (h x : Int) : Int := IntKind.u64.wrap (bits BinOp.xor IntKind.u64 h (IntKind.u64.wrap x) * 1099511628211)
def hinit : Int := 14695981039346656037
def hf (zs : List Int) : Nat → Int
  | 0 => hinit
  | k + 1 => hstep (hf zs k) (zs[k]?.getD 0)
def hm (h m : Int) : Int := IntKind.u64.wrap (bits BinOp.xor IntKind.u64 h (h / 8589934592) * m)
def hl (h : Int) : Int := bits BinOp.xor IntKind.u64 h (h / 8589934592)
def hfin (h : Int) : Int := hl (hm (hm h 18397679294719823053) 14181476777654086739)
set_option maxHeartbeats 400000 in
theorem hash8 (a : Option Addr) (len cap : Nat) (zs : List Int) (w : World) (hl : len ≤ 9223372036854775807) (hc : Elems .u8 w a len zs) :
    Calls Try.prog 39 #[.slice a len cap] w fun e w' => e = .returned (.int .u64 (hfin (hf zs len))) ∧ w = w' := by
  have Hc := Lib.hid hc
  clear hc
  go_enter Try.func39, Try.ntmps39
  go_wp2
  go_loop [3, 5, 8] (fun h x i => ∃ k : Nat, k ≤ len ∧ i = .int .i64 k ∧ h = .int .u64 (hf zs k)) (fun _ _ i => len - (intOf i).toNat)
  case atStart => exact ⟨0, Nat.zero_le _, rfl, rfl⟩
  case round =>
    obtain ⟨k, hk, rfl, rfl⟩ := hrel
    by_cases hlt : k < len
    · obtain ⟨b, off, rfl, _, hcell⟩ := Hc.out k hlt
      go_wp2
      go_round
      case rel => exact ⟨k + 1, by omega, by go_num, rfl⟩
      case measure => simp [intOf]; omega
    · obtain rfl : k = len := by omega
      go_wp2
      go_ret
      exact ⟨rfl, rfl⟩

/-- what Home computes -/
def homeD (h n : Int) : Int := if 1 ≤ n ∧ n ≤ 30 then wrap64 (h / 2 ^ (64 - n).toNat) else 0
set_option maxHeartbeats 400000 in
theorem home10 (h n : Int) (w : World) :
    Calls Try.prog 38 #[.int .u64 h, .int .i64 n] w fun e w' => e = .returned (.int .i64 (homeD h n)) ∧ w = w' := by
  by_cases n1 : n < 1
  · have e : homeD h n = 0 := by unfold homeD; rw [if_neg (by omega)]
    have E := Lib.hid e; clear e
    have d1 : decide (n < 1) = true := by simp; omega
    go_enter Try.func38, Try.ntmps38
    go_wp2
    go_ret
    exact ⟨by rw [E.out]; rfl, rfl⟩
  by_cases n2 : 30 < n
  · have e : homeD h n = 0 := by unfold homeD; rw [if_neg (by omega)]
    have E := Lib.hid e; clear e
    have d1 : decide (n < 1) = false := by simp; omega
    have d2 : decide (30 < n) = true := by simp; omega
    go_enter Try.func38, Try.ntmps38
    go_wp2
    go_ret
    exact ⟨by rw [E.out]; rfl, rfl⟩
  have e : homeD h n = wrap64 (h / 2 ^ (64 - n).toNat) := by unfold homeD; rw [if_pos (by omega)]
  have E := Lib.hid e; clear e
  have d1 : decide (n < 1) = false := by simp; omega
  have d2 : decide (30 < n) = false := by simp; omega
  go_enter Try.func38, Try.ntmps38
  go_wp2
  go_ret
  exact ⟨by rw [E.out]; rfl, rfl⟩
/-- what Row computes -/
def rowD (h n : Int) : Int := if 0 ≤ n ∧ n < 4 then h / 2 ^ (6 * n).toNat % 64 else 0
theorem div_rng (h : Int) (m : Nat) (h0 : 0 ≤ h) (h1 : h < 18446744073709551616) : 0 ≤ h / 2 ^ m ∧ h / 2 ^ m < 18446744073709551616 := by
  have hp : (0 : Int) < 2 ^ m := Int.pow_pos (by omega)
  exact ⟨Int.ediv_nonneg h0 (Int.le_of_lt hp), Int.lt_of_le_of_lt (Int.ediv_le_self _ h0) h1⟩
theorem and63 (x : Int) (h0 : 0 ≤ x) (h1 : x < 18446744073709551616) : bits BinOp.and IntKind.u64 x 63 = x % 64 := by
  rw [u64_and x 63 h0 h1 (by omega) (by omega)]
  rw [show ((63 : Int).toNat) = 2 ^ 6 - 1 from rfl, Nat.and_two_pow_sub_one_eq_mod]
  omega
end Go.Proofs.Ytbfkhghegkiifaa
