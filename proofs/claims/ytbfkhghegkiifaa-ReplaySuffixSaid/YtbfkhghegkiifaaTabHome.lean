/-
  Where the search for a key begins: the contract of home, of after.
-/
import Derived.Test.YtbfkhghegkiifaaTabPlain
import Derived.Test.YtbfkhghegkiifaaMem
import Derived.Test.YtbfkhghegkiifaaHash
import Derived.Laws.IdiomStrings
import Derived.Deep.RegionHeld3
import Derived.Deep.RegionLaw
namespace Go.Proofs.Ytbfkhghegkiifaa
open Go.RowKit
set_option linter.unusedVariables false
def bytesI (s : ByteArray) : List Int := s.data.toList.map (fun b => (b.toNat : Int))
def hashK (s : ByteArray) : Int := hfin (hf (bytesI s) s.size)
def homeI (s : ByteArray) (b : Nat) : Int := homeD (hashK s) b
/-- '[]byte(s)' -/
theorem run_bytesX (w : World) (s : ByteArray) : ∃ g cap w', (convert 9 40 (.string s)).run Try.prog w = .ok (.slice (some ⟨g, 0, none⟩) s.size cap) w' ∧ Elems .u8 w' (some ⟨g, 0, none⟩) s.size (bytesI s) ∧ Below w.heap.size w w' := by
  refine ⟨_, _, _, run_bytes_of_string (P := Try.prog) w 9 40 5 s Try.underlying9 Try.underlying40 Try.underlying5, fun i hi => ⟨_, _, rfl, by simp, ?_⟩, ((Below.refl _ _).drew).alloc (Nat.le_refl _) _⟩
  rw [Nat.zero_add, cell_of_row _ w.heap.size i (bytesRow s (grownCap w s.size 0 5)) 5 ((bytesRow s (grownCap w s.size 0 5)).size, (bytesRow s (grownCap w s.size 0 5)).size + 1) (by show (w.heap.push _)[w.heap.size]? = _; simp)]
  unfold bytesRow bytesI
  rw [Array.getElem?_append_left (by simpa using hi)]
  have : i < s.data.size := hi
  rw [Array.getElem?_map, Array.getElem?_eq_getElem this, List.getElem?_map, List.getElem?_eq_getElem (by simpa using this)]
  simp
theorem hl_nat (h : Nat) (hh : h < 2 ^ 64) : hl (h : Int) = ((h ^^^ h / 8589934592 : Nat) : Int) := by
  unfold hl
  rw [u64_xor _ _ (by omega) (by omega) (by omega) (by omega)]
  congr 1
theorem hl_rng (x : Int) (hx : 0 ≤ x ∧ x < 18446744073709551616) : 0 ≤ hl x ∧ hl x < 18446744073709551616 := by
  obtain ⟨x, rfl⟩ := Int.eq_ofNat_of_zero_le hx.1
  rw [hl_nat x (by omega)]
  have : x ^^^ x / 8589934592 < 2 ^ 64 := Nat.xor_lt_two_pow (by omega) (by omega)
  omega
theorem wrap_u64 (n : Int) : IntKind.u64.wrap n = n % 18446744073709551616 := by
  simp [IntKind.wrap, IntKind.bits, IntKind.signed]
theorem hashK_rng (s : ByteArray) : 0 ≤ hashK s ∧ hashK s < 18446744073709551616 := by
  unfold hashK hfin
  refine hl_rng _ ?_
  unfold hm
  rw [wrap_u64]
  omega
theorem home_rng (s : ByteArray) (b : Nat) (h1 : 1 ≤ b) (h2 : b ≤ 30) : 0 ≤ homeI s b ∧ homeI s b < 2 ^ b := by
  obtain ⟨r1, r2⟩ := hashK_rng s
  unfold homeI homeD
  rw [if_pos (by omega)]
  have hm : ((64 : Int) - (b : Int)).toNat = 64 - b := by omega
  rw [hm]
  have hp : (0 : Int) < 2 ^ (64 - b) := Int.pow_pos (by omega)
  have hb : (2 : Int) ^ b ≤ 2 ^ 30 := by exact_mod_cast Nat.pow_le_pow_right (by omega) h2
  have hs : (2 : Int) ^ b * 2 ^ (64 - b) = 18446744073709551616 := by rw [← Int.pow_add, show b + (64 - b) = 64 from by omega]; rfl
  have a1 : 0 ≤ hashK s / 2 ^ (64 - b) := Int.ediv_nonneg r1 (Int.le_of_lt hp)
  have a2 : hashK s / 2 ^ (64 - b) < 2 ^ b := Int.ediv_lt_of_lt_mul hp (by omega)
  rw [show (2 : Int) ^ 30 = 1073741824 from rfl] at hb
  rw [IntWalk.wrap64_in _ ⟨by omega, by omega⟩]
  exact ⟨a1, a2⟩
def homeN (b : Nat) (s : ByteArray) : Nat := (homeI s b).toNat
theorem homeN_lt (s : ByteArray) (b : Nat) (h1 : 1 ≤ b) (h2 : b ≤ 30) : homeN b s < 2 ^ b ∧ homeI s b = (homeN b s : Int) := by
  obtain ⟨r1, r2⟩ := home_rng s b h1 h2
  unfold homeN
  have : ((2 ^ b : Nat) : Int) = (2 : Int) ^ b := by simp
  omega
theorem and_pow (x : Int) (b : Nat) (hb : b ≤ 62) : bits .and .i64 x ((2 : Int) ^ b - 1) = x % (2 : Int) ^ b := by
  have hle : 2 ^ b ≤ 2 ^ 62 := Nat.pow_le_pow_right (by omega) hb
  have hpos : 0 < 2 ^ b := Nat.pow_pos (by omega)
  have e1 : ((2 : Int) ^ b - 1) = ((2 ^ b - 1 : Nat) : Int) := by
    rw [Int.ofNat_sub (by omega)]; simp
  have hc : (BitVec.ofInt 64 ((2 : Int) ^ b - 1)).toNat = 2 ^ b - 1 := by
    rw [e1, BitVec.ofInt_natCast, BitVec.toNat_ofNat]; exact Nat.mod_eq_of_lt (by omega)
  have key : (BitVec.ofInt 64 x &&& BitVec.ofInt 64 ((2 : Int) ^ b - 1)).toNat = (x % ((2 ^ 64 : Nat) : Int)).toNat % 2 ^ b := by
    rw [BitVec.toNat_and, BitVec.toNat_ofInt, hc, Nat.and_two_pow_sub_one_eq_mod]
  show IntKind.i64.wrap ((BitVec.ofInt 64 x &&& BitVec.ofInt 64 ((2 : Int) ^ b - 1)).toNat : Nat) = _
  rw [key]
  have hm : (x % ((2 ^ 64 : Nat) : Int)).toNat % 2 ^ b < 2 ^ b := Nat.mod_lt _ hpos
  have e2 : (((x % ((2 ^ 64 : Nat) : Int)).toNat % 2 ^ b : Nat) : Int) = x % (2 : Int) ^ b := by
    have h0 : 0 ≤ x % ((2 ^ 64 : Nat) : Int) := Int.emod_nonneg _ (by decide)
    rw [Int.natCast_emod, Int.toNat_of_nonneg h0]
    have hd : ((2 ^ b : Nat) : Int) ∣ ((2 ^ 64 : Nat) : Int) := by exact_mod_cast Nat.pow_dvd_pow 2 (by omega)
    rw [Int.emod_emod_of_dvd _ hd]; simp
  rw [IntWalk.i64_in _ ⟨by omega, by omega⟩, e2]
theorem keepB {n : Nat} {v : Value} {W1 W w' : World} (h : W.cell? ⟨n, 0, none⟩ = some v ∧ Below (n + 1) W1 W) (h0 : n + 1 ≤ W1.heap.size) (hb : Below W.heap.size W w') : w'.cell? ⟨n, 0, none⟩ = some v ∧ Below (n + 1) W1 w' := by
  have hs := h.2.size
  refine ⟨?_, h.2.trans (hb.mono (by omega))⟩
  rw [hb.cell (p := ⟨n, 0, none⟩) (by show n < _; omega)]
  exact h.1
set_option maxRecDepth 100000 in
set_option maxHeartbeats 2000000 in
theorem home33 (b : Nat) (v : Value) (k : ByteArray) (w : World) (hk : k.size ≤ 9223372036854775807) :
    Calls Try.prog 31 #[.agg #[.int .i64 (b : Int), v], .string k] w fun e w' => e = .returned (.int .i64 (homeI k b)) ∧ Below w.heap.size w w' := by
  have HH := fun (a : Option Addr) (cap : Nat) (W : World) (he : Elems .u8 W a k.size (bytesI k)) => hash8 a k.size cap (bytesI k) W hk he
  have HO := fun W => home10 (hashK k) (b : Int) W
  have E := Lib.hid (show hfin (hf (bytesI k) k.size) = hashK k from rfl)
  have E2 := Lib.hid (show homeD (hashK k) b = homeI k b from rfl)
  rw [E.out] at HH
  rw [E2.out] at HO
  generalize hashK k = h at *
  generalize homeI k b = m at *
  have H1 := Lib.hid HH; have H2 := Lib.hid HO
  clear HH HO E E2
  go_enter Try.func31, Try.ntmps31
  go_wp2_with fail
  have hz : (w.alloc (.cells #[.int .i64 (b : Int), v] 61)).cell? ⟨w.heap.size, 0, none⟩ = some (.int .i64 (b : Int)) := by rw [World.cell?_alloc_at _ _ _ _ rfl]; rfl
  have S0 := Lib.hid (show (w.alloc (.cells #[.int .i64 (b : Int), v] 61)).drew.cell? ⟨w.heap.size, 0, none⟩ = some (.int .i64 (b : Int)) ∧ Below (w.heap.size + 1) (w.alloc (.cells #[.int .i64 (b : Int), v] 61)) (w.alloc (.cells #[.int .i64 (b : Int), v] 61)).drew from ⟨hz, (Below.refl _ _).drew⟩)
  have HZ := Lib.hid (show w.heap.size + 1 ≤ (w.alloc (.cells #[.int .i64 (b : Int), v] 61)).heap.size by simp)
  obtain ⟨g, cap, w2, hconv, hel, hb2⟩ := run_bytesX (w.alloc (.cells #[.int .i64 (b : Int), v] 61)).drew k
  obtain ⟨k2, hS2⟩ := keepB S0.out HZ.out hb2
  have HEL := Lib.hid hel
  have HS2 := Lib.hid hS2
  clear hel hb2 hS2
  go_region_with
    (first
      | (go_at_call 39; (with_reducible refine (H1.out _ _ _ HEL.out).mono ?_); rintro e w3 ⟨rfl, rfl⟩)
      | (go_at_call 38; (with_reducible refine (H2.out _).mono ?_); rintro e w3 ⟨rfl, rfl⟩))
  all_goals
    go_wp2_with fail
    go_ret
    exact ⟨rfl, ((Below.refl w.heap.size w).alloc (Nat.le_refl _) _).trans (HS2.out.mono (by omega))⟩
theorem and_nxt (n b i : Nat) (hn : n = 2 ^ b) (hb : b ≤ 30) (hi : i < n) : bits .and .i64 ((i : Int) + 1) ((n : Int) - 1) = (nxt n i : Int) := by
  have e : ((n : Int)) = (2 : Int) ^ b := by rw [hn]; simp
  rw [e, and_pow _ b (by omega), ← e]
  rcases nxt_cases n i with ⟨h, h2⟩ | ⟨h, h2⟩ <;> rw [h2]
  · rw [Int.emod_eq_of_lt (by omega) (by omega)]; rfl
  · rw [show (i : Int) + 1 = n from by omega, Int.emod_self]; rfl
theorem and_dist (n b h k : Nat) (hn : n = 2 ^ b) (hb : b ≤ 30) (hh : h < n) (hk : k < n) : bits .and .i64 ((k : Int) - (h : Int)) ((n : Int) - 1) = (dist n h k : Int) := by
  have e : ((n : Int)) = (2 : Int) ^ b := by rw [hn]; simp
  rw [e, and_pow _ b (by omega), ← e]
  rcases dist_cases n h k with ⟨h1, h2⟩ | ⟨h1, h2⟩ <;> rw [h2]
  · rw [Int.emod_eq_of_lt (by omega) (by omega)]; omega
  · have : ((k : Int) - h) % (n : Int) = ((k : Int) - h + n) % (n : Int) := by rw [Int.add_emod_right]
    rw [this, Int.emod_eq_of_lt (by omega) (by omega)]; omega
theorem pow_le30 {b : Nat} (hb : b ≤ 30) : 2 ^ b ≤ 1073741824 := Nat.pow_le_pow_right (by omega) hb
set_option maxHeartbeats 1000000 in
theorem after34 (n b i cap : Nat) (x : Int) (a : Option Addr) (w : World) (hn : n = 2 ^ b) (hb : b ≤ 30) (hi : i < n) :
    Calls Try.prog 32 #[.agg #[.int .i64 x, .slice a n cap], .int .i64 (i : Int)] w fun e w' => e = .returned (.int .i64 (nxt n i : Int)) ∧ Below w.heap.size w w' := by
  have hand := and_nxt n b i hn hb hi
  have hle := pow_le30 hb
  rw [← hn] at hle
  clear hn
  generalize nxt n i = m at *
  go_enter Try.func32, Try.ntmps32
  go_wp2_with fail
  go_ret
  exact ⟨by first | rfl | (rw [hand]), (Below.refl _ _).alloc (Nat.le_refl _) _⟩
end Go.Proofs.Ytbfkhghegkiifaa
