/-
  Layouts as four numbers, and the contract of superblock.Form and of its reference: both compute 'formB'.
-/
import Derived.Test.YtkafffoaaklhiaaMem
namespace Go.Proofs.Ytkafffoaaklhiaa
open Go.RowKit
/-- a layout's four numbers -/
structure Lay where
  id : Int
  ver : Int
  rs : Int
  rg : Int
  deriving DecidableEq
def Lay.val (l : Lay) : Value := .agg #[.int .i64 l.id, .int .i64 l.ver, .int .i64 l.rs, .int .i64 l.rg]
def pow2B (n : Int) : Bool := n == 2 || n == 4 || n == 8 || n == 16 || n == 32 || n == 64 || n == 128 || n == 256 || n == 512 || n == 1024 || n == 2048
def formB (l : Lay) : Bool := decide (1 ≤ l.id ∧ l.id ≤ 4294967295 ∧ (l.ver = 1 ∨ l.ver = 2) ∧ pow2B l.rs = true ∧ 4 ≤ l.rg ∧ l.rg ≤ 16)
theorem pow2_and (n : Int) (h1 : 2 ≤ n) (h2 : n ≤ 2048) : (bits .and .i64 n (n - 1) == 0) = pow2B n := by
  have key : ∀ m : Fin 2049, 2 ≤ m.val → (bits .and .i64 (m.val : Int) ((m.val : Int) - 1) == 0) = pow2B (m.val : Int) := by decide +kernel
  obtain ⟨m, rfl⟩ := Int.eq_ofNat_of_zero_le (show 0 ≤ n by omega)
  exact key ⟨m, by omega⟩ (by show 2 ≤ m; omega)
theorem pow2_rng {n : Int} (h : pow2B n = true) : 2 ≤ n ∧ n ≤ 2048 := by
  simp only [pow2B, Bool.or_eq_true, beq_iff_eq] at h
  omega
theorem formB_iff (id ver rs rg : Int) : formB ⟨id, ver, rs, rg⟩ = true ↔
    (1 ≤ id ∧ id ≤ 4294967295 ∧ (ver = 1 ∨ ver = 2) ∧ 2 ≤ rs ∧ rs ≤ 2048 ∧ bits .and .i64 rs (rs - 1) = 0 ∧ 4 ≤ rg ∧ rg ≤ 16) := by
  unfold formB
  rw [decide_eq_true_eq]
  constructor
  · rintro ⟨a, b, c, d, e, f⟩
    obtain ⟨g, h⟩ := pow2_rng d
    have k := pow2_and rs g h
    rw [d, beq_iff_eq] at k
    exact ⟨a, b, c, g, h, k, e, f⟩
  · rintro ⟨a, b, c, g, h, k, e, f⟩
    refine ⟨a, b, c, ?_, e, f⟩
    rw [← pow2_and rs g h, k]; rfl
theorem ret_bool {a b : Bool} (h : a = b) : Ending.returned (.bool a) = .returned (.bool b) := by rw [h]
theorem ret_int {k : IntKind} {a b : Int} (h : a = b) : Ending.returned (.int k a) = .returned (.int k b) := by rw [h]
set_option maxHeartbeats 1000000 in
theorem form20 (id ver rs rg : Int) (w : World) :
    Calls Try.prog 28 #[.agg #[.int .i64 id, .int .i64 ver, .int .i64 rs, .int .i64 rg]] w fun e w' => e = .returned (.bool (formB ⟨id, ver, rs, rg⟩)) ∧ Below w.heap.size w w' := by
  go_enter Try.func28, Try.ntmps28
  go_wp2
  all_goals
    go_ret
    refine ⟨ret_bool ?_, (Below.refl _ _).alloc (Nat.le_refl _) _⟩
    rw [Bool.eq_iff_iff, formB_iff]
    try simp only [decide_eq_true_eq, Bool.false_eq_true, false_iff]
    omega
/-- the reference's search for the power of two -/
def logD (n : Int) : Int := if n = 1 then 0 else if n = 2 then 1 else if n = 4 then 2 else if n = 8 then 3 else if n = 16 then 4 else if n = 32 then 5 else if n = 64 then 6 else if n = 128 then 7 else if n = 256 then 8 else if n = 512 then 9 else if n = 1024 then 10 else if n = 2048 then 11 else -1
set_option maxHeartbeats 1000000 in
theorem log19 (n : Int) (w : World) :
    Calls Try.prog 32 #[.int .i64 n] w fun e w' => e = .returned (.int .i64 (logD n)) ∧ w = w' := by
  go_enter Try.func32, Try.ntmps32
  go_wp2
  go_loop [2, 3] (fun s i => ∃ k : Nat, k ≤ 12 ∧ i = .int .i64 k ∧ ∀ j : Nat, j < k → n ≠ 2 ^ j) (fun _ i => 12 - (intOf i).toNat)
  case atStart => exact ⟨0, Nat.zero_le _, rfl, fun j hj => by omega⟩
  case round =>
    obtain ⟨k, hk, rfl, hn⟩ := hrel
    have HN := Lib.hid hn
    clear hn
    by_cases hlt : k < 12
    · have hp : (0 : Int) < 2 ^ k ∧ (2 : Int) ^ k ≤ 2048 := by
        refine ⟨Int.pow_pos (by omega), ?_⟩
        have : ∀ m : Fin 12, (2 : Int) ^ m.val ≤ 2048 := by decide
        exact this ⟨k, hlt⟩
      have hw : wrap64 (2 ^ k) = 2 ^ k := IntWalk.wrap64_in _ ⟨by omega, by omega⟩
      by_cases he : n = 2 ^ k
      · have h1 : (n == wrap64 (2 ^ k)) = true := by rw [hw, he]; simp
        have hl : logD n = k := by
          have : ∀ m : Fin 12, logD (2 ^ m.val) = (m.val : Int) := by decide +kernel
          rw [he]; exact this ⟨k, hlt⟩
        have HL := Lib.hid hl
        clear hp hw he hl
        go_wp2
        go_ret
        exact ⟨ret_int HL.out.symm, rfl⟩
      · have h1 : (n == wrap64 (2 ^ k)) = false := by rw [hw]; simpa using he
        have hn' : ∀ j : Nat, j < k + 1 → n ≠ 2 ^ j := by
          intro j hj
          by_cases hjk : j = k
          · rw [hjk]; exact he
          · exact HN.out j (by omega)
        have HN' := Lib.hid hn'
        clear hp hw he hn' HN
        go_wp2
        go_round
        case rel => exact ⟨k + 1, by omega, by go_num, HN'.out⟩
        case measure => simp [intOf]; omega
    · obtain rfl : k = 12 := by omega
      have hl : logD n = -1 := by
        have hn := HN.out
        have a0 := hn 0 (by omega); have a1 := hn 1 (by omega); have a2 := hn 2 (by omega); have a3 := hn 3 (by omega); have a4 := hn 4 (by omega); have a5 := hn 5 (by omega)
        have a6 := hn 6 (by omega); have a7 := hn 7 (by omega); have a8 := hn 8 (by omega); have a9 := hn 9 (by omega); have a10 := hn 10 (by omega); have a11 := hn 11 (by omega)
        unfold logD
        simp only [show (2 : Int) ^ 0 = 1 from rfl, show (2 : Int) ^ 1 = 2 from rfl, show (2 : Int) ^ 2 = 4 from rfl, show (2 : Int) ^ 3 = 8 from rfl, show (2 : Int) ^ 4 = 16 from rfl, show (2 : Int) ^ 5 = 32 from rfl, show (2 : Int) ^ 6 = 64 from rfl, show (2 : Int) ^ 7 = 128 from rfl, show (2 : Int) ^ 8 = 256 from rfl, show (2 : Int) ^ 9 = 512 from rfl, show (2 : Int) ^ 10 = 1024 from rfl, show (2 : Int) ^ 11 = 2048 from rfl] at a0 a1 a2 a3 a4 a5 a6 a7 a8 a9 a10 a11
        rw [if_neg a0, if_neg a1, if_neg a2, if_neg a3, if_neg a4, if_neg a5, if_neg a6, if_neg a7, if_neg a8, if_neg a9, if_neg a10, if_neg a11]
      have HL := Lib.hid hl
      clear hl HN
      go_wp2
      go_ret
      exact ⟨ret_int HL.out.symm, rfl⟩
theorem pow2_log (n : Int) : pow2B n = true ↔ 1 ≤ logD n := by
  simp only [pow2B, Bool.or_eq_true, beq_iff_eq]
  unfold logD
  constructor
  · intro h
    rcases h with ((((((((((h | h) | h) | h) | h) | h) | h) | h) | h) | h) | h) <;> (subst h; decide)
  · intro h
    repeat' split at h
    all_goals omega
theorem formB_iff2 (id ver rs rg : Int) : formB ⟨id, ver, rs, rg⟩ = true ↔
    (1 ≤ id ∧ id ≤ 4294967295 ∧ (ver = 1 ∨ ver = 2) ∧ 1 ≤ logD rs ∧ 4 ≤ rg ∧ rg ≤ 16) := by
  unfold formB
  rw [decide_eq_true_eq, pow2_log]
set_option maxHeartbeats 1000000 in
theorem refform12 (id ver rs rg : Int) (w : World) :
    Calls Try.prog 15 #[.agg #[.int .i64 id, .int .i64 ver, .int .i64 rs, .int .i64 rg]] w fun e w' => e = .returned (.bool (formB ⟨id, ver, rs, rg⟩)) ∧ Below w.heap.size w w' := by
  have hl := Lib.hid (fun W => log19 rs W)
  have hk := Lib.hid (formB_iff2 id ver rs rg)
  generalize logD rs = L at *
  generalize formB ⟨id, ver, rs, rg⟩ = F at *
  go_enter Try.func15, Try.ntmps15
  go_wp2_with (go_at_call 32; with_reducible refine (hl.out _).mono ?_; rintro e w' ⟨rfl, rfl⟩)
  all_goals
    go_ret
    refine ⟨ret_bool ?_, (Below.refl _ _).alloc (Nat.le_refl _) _⟩
    rw [Bool.eq_iff_iff, hk.out]
    try simp only [decide_eq_true_eq, Bool.false_eq_true, false_iff]
    omega
end Go.Proofs.Ytkafffoaaklhiaa
