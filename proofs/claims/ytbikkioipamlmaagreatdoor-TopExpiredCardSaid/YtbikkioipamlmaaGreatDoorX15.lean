/-
  Laws and contracts for the statement TopExpired.
-/
import Derived.Laws.IdiomStrings
import Derived.Deep.RegionLaw
import Derived.Deep.LoopGhost
import Derived.BigRegion
import Derived.Test.YtbikkioipamlmaaGreatDoorX14
open Go.Lib (hid)
open Go.Proofs.Tryz (prog)
set_option linter.unusedVariables false
set_option linter.unusedSimpArgs false
set_option maxRecDepth 100000
set_option maxHeartbeats 20000000
namespace Go.Proofs.YtbikkioipamlmaaGreatDoor
open Go.RowKit
def hstep (h x : Int) : Int := IntKind.u64.wrap (bits BinOp.xor IntKind.u64 h (IntKind.u64.wrap x) * 1099511628211)
def hinit : Int := 14695981039346656037
def hf (zs : List Int) : Nat -> Int
  | 0 => hinit
  | k + 1 => hstep (hf zs k) (zs[k]?.getD 0)
def hm (h m : Int) : Int := IntKind.u64.wrap (bits BinOp.xor IntKind.u64 h (h / 8589934592) * m)
def hl (h : Int) : Int := bits BinOp.xor IntKind.u64 h (h / 8589934592)
def hfin (h : Int) : Int := hl (hm (hm h 18397679294719823053) 14181476777654086739)
theorem hash8 (a : Option Addr) (len cap : Nat) (zs : List Int) (w : World) (hl : len <= 9223372036854775807) (hc : Elems .u8 w a len zs) :
    Calls prog 74 #[.slice a len cap] w fun e w' => e = .returned (.int .u64 (hfin (hf zs len))) /\ w = w' := by
  have Hc := hid hc
  clear hc
  go_enter Tryz.func74, Tryz.ntmps74
  go_wp2
  go_loop [3, 5, 8] (fun h x i => ∃ k : Nat, k <= len /\ i = .int .i64 k /\ h = .int .u64 (hf zs k)) (fun _ _ i => len - (intOf i).toNat)
  case atStart => exact ⟨0, Nat.zero_le _, rfl, rfl⟩
  case round =>
    obtain ⟨k, hk, rfl, rfl⟩ := hrel
    by_cases hlt : k < len
    · obtain ⟨b, off, rfl, _, hcell⟩ := Hc.out k hlt
      go_wp2
      go_round
      case rel => exact ⟨k + 1, by omega, by go_num, rfl⟩
      case measure => simp [intOf]; omega
    · obtain rfl : k = len := by omega
      go_wp2
      go_ret
      exact ⟨rfl, rfl⟩
def homeD (h n : Int) : Int := if 1 <= n /\ n <= 30 then wrap64 (h / 2 ^ (64 - n).toNat) else 0
theorem home10 (h n : Int) (w : World) :
    Calls prog 327 #[.int .u64 h, .int .i64 n] w fun e w' => e = .returned (.int .i64 (homeD h n)) /\ w = w' := by
  by_cases n1 : n < 1
  · have e : homeD h n = 0 := by unfold homeD; rw [if_neg (by omega)]
    have E := hid e; clear e
    have d1 : decide (n < 1) = true := by simp; omega
    go_enter Tryz.func327, Tryz.ntmps327
    go_wp2
    go_ret
    exact ⟨by rw [E.out]; rfl, rfl⟩
  by_cases n2 : 30 < n
  · have e : homeD h n = 0 := by unfold homeD; rw [if_neg (by omega)]
    have E := hid e; clear e
    have d1 : decide (n < 1) = false := by simp; omega
    have d2 : decide (30 < n) = true := by simp; omega
    go_enter Tryz.func327, Tryz.ntmps327
    go_wp2
    go_ret
    exact ⟨by rw [E.out]; rfl, rfl⟩
  have e : homeD h n = wrap64 (h / 2 ^ (64 - n).toNat) := by unfold homeD; rw [if_pos (by omega)]
  have E := hid e; clear e
  have d1 : decide (n < 1) = false := by simp; omega
  have d2 : decide (30 < n) = false := by simp; omega
  go_enter Tryz.func327, Tryz.ntmps327
  go_wp2
  go_ret
  exact ⟨by rw [E.out]; rfl, rfl⟩
def rowD (h n : Int) : Int := if 0 <= n /\ n < 4 then h / 2 ^ (6 * n).toNat % 64 else 0
theorem div_rng (h : Int) (m : Nat) (h0 : 0 <= h) (h1 : h < 18446744073709551616) : 0 <= h / 2 ^ m /\ h / 2 ^ m < 18446744073709551616 := by
  have hp : (0 : Int) < 2 ^ m := Int.pow_pos (by omega)
  exact ⟨Int.ediv_nonneg h0 (Int.le_of_lt hp), Int.lt_of_le_of_lt (Int.ediv_le_self _ h0) h1⟩
theorem and63 (x : Int) (h0 : 0 <= x) (h1 : x < 18446744073709551616) : bits BinOp.and IntKind.u64 x 63 = x % 64 := by
  rw [u64_and x 63 h0 h1 (by omega) (by omega)]
  rw [show ((63 : Int).toNat) = 2 ^ 6 - 1 from rfl, Nat.and_two_pow_sub_one_eq_mod]
  omega
theorem row11 (h n : Int) (w : World) (h0 : 0 <= h) (h1 : h < 18446744073709551616) :
    Calls prog 139 #[.int .u64 h, .int .i64 n] w fun e w' => e = .returned (.int .i64 (rowD h n)) /\ w = w' := by
  by_cases n1 : n < 0
  · have e : rowD h n = 0 := by unfold rowD; rw [if_neg (by omega)]
    have E := hid e; clear e
    have d1 : decide (n < 0) = true := by simp; omega
    go_enter Tryz.func139, Tryz.ntmps139
    go_wp2
    go_ret
    exact ⟨by rw [E.out]; rfl, rfl⟩
  by_cases n2 : 4 <= n
  · have e : rowD h n = 0 := by unfold rowD; rw [if_neg (by omega)]
    have E := hid e; clear e
    have d1 : decide (n < 0) = false := by simp; omega
    have d2 : decide (4 <= n) = true := by simp; omega
    go_enter Tryz.func139, Tryz.ntmps139
    go_wp2
    go_ret
    exact ⟨by rw [E.out]; rfl, rfl⟩
  have hr := div_rng h (6 * n).toNat h0 h1
  have e : rowD h n = wrap64 (bits BinOp.and IntKind.u64 (h / 2 ^ (6 * n).toNat) 63) := by
    unfold rowD; rw [if_pos (by omega), and63 _ hr.1 hr.2, IntWalk.wrap64_in _ ⟨by omega, by omega⟩]
  have E := hid e; clear e hr
  have d1 : decide (n < 0) = false := by simp; omega
  have d2 : decide (4 <= n) = false := by simp; omega
  go_enter Tryz.func139, Tryz.ntmps139
  go_wp2
  go_ret
  exact ⟨by rw [E.out]; rfl, rfl⟩
end Go.Proofs.YtbikkioipamlmaaGreatDoor
namespace Go.Proofs.YtbikkioipamlmaaGreatDoor.T16
open Go.RowKit
def bytesI (s : ByteArray) : List Int := s.data.toList.map (fun b => (b.toNat : Int))
def hashK (s : ByteArray) : Int := hfin (hf (bytesI s) s.size)
def homeI (s : ByteArray) (b : Nat) : Int := homeD (hashK s) b
theorem run_bytesX (w : World) (s : ByteArray) : ∃ g cap w', (convert 9 33 (.string s)).run prog w = .ok (.slice (some ⟨g, 0, none⟩) s.size cap) w' /\ Elems .u8 w' (some ⟨g, 0, none⟩) s.size (bytesI s) /\ Below w.heap.size w w' := by
  refine ⟨_, _, _, run_bytes_of_string (P := prog) w 9 33 5 s Tryz.underlying9 Tryz.underlying33 Tryz.underlying5, fun i hi => ⟨_, _, rfl, by simp, ?_⟩, ((Below.refl _ _).drew).alloc (Nat.le_refl _) _⟩
  rw [Nat.zero_add, cell_of_row _ w.heap.size i (bytesRow s (grownCap w s.size 0 5)) 5 ((bytesRow s (grownCap w s.size 0 5)).size, (bytesRow s (grownCap w s.size 0 5)).size + 1) (by show (w.heap.push _)[w.heap.size]? = _; simp)]
  unfold bytesRow bytesI
  rw [Array.getElem?_append_left (by simpa using hi)]
  have : i < s.data.size := hi
  rw [Array.getElem?_map, Array.getElem?_eq_getElem this, List.getElem?_map, List.getElem?_eq_getElem (by simpa using this)]
  simp
theorem hl_nat (h : Nat) (hh : h < 2 ^ 64) : hl (h : Int) = ((h ^^^ h / 8589934592 : Nat) : Int) := by
  unfold hl
  rw [u64_xor _ _ (by omega) (by omega) (by omega) (by omega)]
  congr 1
theorem hl_rng (x : Int) (hx : 0 <= x /\ x < 18446744073709551616) : 0 <= hl x /\ hl x < 18446744073709551616 := by
  obtain ⟨x, rfl⟩ := Int.eq_ofNat_of_zero_le hx.1
  rw [hl_nat x (by omega)]
  have : x ^^^ x / 8589934592 < 2 ^ 64 := Nat.xor_lt_two_pow (by omega) (by omega)
  omega
theorem wrap_u64 (n : Int) : IntKind.u64.wrap n = n % 18446744073709551616 := by
  simp [IntKind.wrap, IntKind.bits, IntKind.signed]
theorem hashK_rng (s : ByteArray) : 0 <= hashK s /\ hashK s < 18446744073709551616 := by
  unfold hashK hfin
  refine hl_rng _ ?_
  unfold hm
  rw [wrap_u64]
  omega
theorem home_rng (s : ByteArray) (b : Nat) (h1 : 1 <= b) (h2 : b <= 30) : 0 <= homeI s b /\ homeI s b < 2 ^ b := by
  obtain ⟨r1, r2⟩ := hashK_rng s
  unfold homeI homeD
  rw [if_pos (by omega)]
  have hm : ((64 : Int) - (b : Int)).toNat = 64 - b := by omega
  rw [hm]
  have hp : (0 : Int) < 2 ^ (64 - b) := Int.pow_pos (by omega)
  have hb : (2 : Int) ^ b <= 2 ^ 30 := by exact_mod_cast Nat.pow_le_pow_right (by omega) h2
  have hs : (2 : Int) ^ b * 2 ^ (64 - b) = 18446744073709551616 := by rw [<- Int.pow_add, show b + (64 - b) = 64 from by omega]; rfl
  have a1 : 0 <= hashK s / 2 ^ (64 - b) := Int.ediv_nonneg r1 (Int.le_of_lt hp)
  have a2 : hashK s / 2 ^ (64 - b) < 2 ^ b := Int.ediv_lt_of_lt_mul hp (by omega)
  rw [show (2 : Int) ^ 30 = 1073741824 from rfl] at hb
  rw [IntWalk.wrap64_in _ ⟨by omega, by omega⟩]
  exact ⟨a1, a2⟩
def homeN (b : Nat) (s : ByteArray) : Nat := (homeI s b).toNat
theorem homeN_lt (s : ByteArray) (b : Nat) (h1 : 1 <= b) (h2 : b <= 30) : homeN b s < 2 ^ b /\ homeI s b = (homeN b s : Int) := by
  obtain ⟨r1, r2⟩ := home_rng s b h1 h2
  unfold homeN
  have : ((2 ^ b : Nat) : Int) = (2 : Int) ^ b := by simp
  omega
theorem and_pow (x : Int) (b : Nat) (hb : b <= 62) : bits .and .i64 x ((2 : Int) ^ b - 1) = x % (2 : Int) ^ b := by
  have hle : 2 ^ b <= 2 ^ 62 := Nat.pow_le_pow_right (by omega) hb
  have hpos : 0 < 2 ^ b := Nat.pow_pos (by omega)
  have e1 : ((2 : Int) ^ b - 1) = ((2 ^ b - 1 : Nat) : Int) := by
    rw [Int.ofNat_sub (by omega)]; simp
  have hc : (BitVec.ofInt 64 ((2 : Int) ^ b - 1)).toNat = 2 ^ b - 1 := by
    rw [e1, BitVec.ofInt_natCast, BitVec.toNat_ofNat]; exact Nat.mod_eq_of_lt (by omega)
  have key : (BitVec.ofInt 64 x &&& BitVec.ofInt 64 ((2 : Int) ^ b - 1)).toNat = (x % ((2 ^ 64 : Nat) : Int)).toNat % 2 ^ b := by
    rw [BitVec.toNat_and, BitVec.toNat_ofInt, hc, Nat.and_two_pow_sub_one_eq_mod]
  show IntKind.i64.wrap ((BitVec.ofInt 64 x &&& BitVec.ofInt 64 ((2 : Int) ^ b - 1)).toNat : Nat) = _
  rw [key]
  have hm : (x % ((2 ^ 64 : Nat) : Int)).toNat % 2 ^ b < 2 ^ b := Nat.mod_lt _ hpos
  have e2 : (((x % ((2 ^ 64 : Nat) : Int)).toNat % 2 ^ b : Nat) : Int) = x % (2 : Int) ^ b := by
    have h0 : 0 <= x % ((2 ^ 64 : Nat) : Int) := Int.emod_nonneg _ (by decide)
    rw [Int.natCast_emod, Int.toNat_of_nonneg h0]
    have hd : ((2 ^ b : Nat) : Int) ∣ ((2 ^ 64 : Nat) : Int) := by exact_mod_cast Nat.pow_dvd_pow 2 (by omega)
    rw [Int.emod_emod_of_dvd _ hd]; simp
  rw [IntWalk.i64_in _ ⟨by omega, by omega⟩, e2]
theorem keepB {n : Nat} {v : Value} {W1 W w' : World} (h : W.cell? ⟨n, 0, none⟩ = some v /\ Below (n + 1) W1 W) (h0 : n + 1 <= W1.heap.size) (hb : Below W.heap.size W w') : w'.cell? ⟨n, 0, none⟩ = some v /\ Below (n + 1) W1 w' := by
  have hs := h.2.size
  refine ⟨?_, h.2.trans (hb.mono (by omega))⟩
  rw [hb.cell (p := ⟨n, 0, none⟩) (by show n < _; omega)]
  exact h.1
theorem home33 (b : Nat) (v : Value) (k : ByteArray) (w : World) (hk : k.size <= 9223372036854775807) :
    Calls prog 274 #[.agg #[.int .i64 (b : Int), v], .string k] w fun e w' => e = .returned (.int .i64 (homeI k b)) /\ Below w.heap.size w w' := by
  have HH := fun (a : Option Addr) (cap : Nat) (W : World) (he : Elems .u8 W a k.size (bytesI k)) => hash8 a k.size cap (bytesI k) W hk he
  have HO := fun W => home10 (hashK k) (b : Int) W
  have E := hid (show hfin (hf (bytesI k) k.size) = hashK k from rfl)
  have E2 := hid (show homeD (hashK k) b = homeI k b from rfl)
  rw [E.out] at HH
  rw [E2.out] at HO
  generalize hashK k = h at *
  generalize homeI k b = m at *
  have H1 := hid HH; have H2 := hid HO
  clear HH HO E E2
  go_enter Tryz.func274, Tryz.ntmps274
  go_wp2_with fail
  have hz : (w.alloc (.cells #[.int .i64 (b : Int), v] 305)).cell? ⟨w.heap.size, 0, none⟩ = some (.int .i64 (b : Int)) := by rw [World.cell?_alloc_at _ _ _ _ rfl]; rfl
  have S0 := hid (show (w.alloc (.cells #[.int .i64 (b : Int), v] 305)).drew.cell? ⟨w.heap.size, 0, none⟩ = some (.int .i64 (b : Int)) /\ Below (w.heap.size + 1) (w.alloc (.cells #[.int .i64 (b : Int), v] 305)) (w.alloc (.cells #[.int .i64 (b : Int), v] 305)).drew from ⟨hz, (Below.refl _ _).drew⟩)
  have HZ := hid (show w.heap.size + 1 <= (w.alloc (.cells #[.int .i64 (b : Int), v] 305)).heap.size by simp)
  obtain ⟨g, cap, w2, hconv, hel, hb2⟩ := run_bytesX (w.alloc (.cells #[.int .i64 (b : Int), v] 305)).drew k
  obtain ⟨k2, hS2⟩ := keepB S0.out HZ.out hb2
  have HEL := hid hel
  have HS2 := hid hS2
  clear hel hb2 hS2
  go_region_with
    (first
      | (go_at_call 74; (with_reducible refine (H1.out _ _ _ HEL.out).mono ?_); rintro e w3 ⟨rfl, rfl⟩)
      | (go_at_call 327; (with_reducible refine (H2.out _).mono ?_); rintro e w3 ⟨rfl, rfl⟩))
  all_goals
    go_wp2_with fail
    go_ret
    exact ⟨rfl, ((Below.refl w.heap.size w).alloc (Nat.le_refl _) _).trans (HS2.out.mono (by omega))⟩
theorem and_nxt (n b i : Nat) (hn : n = 2 ^ b) (hb : b <= 30) (hi : i < n) : bits .and .i64 ((i : Int) + 1) ((n : Int) - 1) = (nxt n i : Int) := by
  have e : ((n : Int)) = (2 : Int) ^ b := by rw [hn]; simp
  rw [e, and_pow _ b (by omega), <- e]
  rcases nxt_cases n i with ⟨h, h2⟩ | ⟨h, h2⟩ <;> rw [h2]
  · rw [Int.emod_eq_of_lt (by omega) (by omega)]; rfl
  · rw [show (i : Int) + 1 = n from by omega, Int.emod_self]; rfl
theorem and_dist (n b h k : Nat) (hn : n = 2 ^ b) (hb : b <= 30) (hh : h < n) (hk : k < n) : bits .and .i64 ((k : Int) - (h : Int)) ((n : Int) - 1) = (dist n h k : Int) := by
  have e : ((n : Int)) = (2 : Int) ^ b := by rw [hn]; simp
  rw [e, and_pow _ b (by omega), <- e]
  rcases dist_cases n h k with ⟨h1, h2⟩ | ⟨h1, h2⟩ <;> rw [h2]
  · rw [Int.emod_eq_of_lt (by omega) (by omega)]; omega
  · have : ((k : Int) - h) % (n : Int) = ((k : Int) - h + n) % (n : Int) := by rw [Int.add_emod_right]
    rw [this, Int.emod_eq_of_lt (by omega) (by omega)]; omega
theorem pow_le30 {b : Nat} (hb : b <= 30) : 2 ^ b <= 1073741824 := Nat.pow_le_pow_right (by omega) hb
theorem after34 (n b i cap : Nat) (x : Int) (a : Option Addr) (w : World) (hn : n = 2 ^ b) (hb : b <= 30) (hi : i < n) :
    Calls prog 275 #[.agg #[.int .i64 x, .slice a n cap], .int .i64 (i : Int)] w fun e w' => e = .returned (.int .i64 (nxt n i : Int)) /\ Below w.heap.size w w' := by
  have hand := and_nxt n b i hn hb hi
  have hle := pow_le30 hb
  rw [<- hn] at hle
  clear hn
  generalize nxt n i = m at *
  go_enter Tryz.func275, Tryz.ntmps275
  go_wp2_with fail
  go_ret
  exact ⟨by first | rfl | (rw [hand]), (Below.refl _ _).alloc (Nat.le_refl _) _⟩
def entC (e : Ent) : List Value := [.int .i64 e.seq, .int .i64 e.off, .int .i64 e.len, .int .i64 e.exp, .bool e.hit]
def plC (p : Pl) : List Value := .int .i64 (p.st : Int) :: .string p.key :: entC p.en
def placesC : List Pl -> List Value
  | [] => []
  | p :: l => plC p ++ placesC l
theorem plC_len (p : Pl) : (plC p).length = 7 := rfl
theorem placesC_len (l : List Pl) : (placesC l).length = l.length * 7 := by
  induction l with
  | nil => rfl
  | cons p l ih => simp only [placesC, List.length_append, plC_len, ih, List.length_cons]; omega
theorem placesC_at (l : List Pl) (i : Nat) (p : Pl) (h : l[i]? = some p) (j : Nat) (hj : j < 7) : (placesC l)[i * 7 + j]? = (plC p)[j]? := by
  induction l generalizing i with
  | nil => simp at h
  | cons q l ih =>
    cases i with
    | zero =>
      simp at h; subst h
      rw [Nat.zero_mul, Nat.zero_add]
      show (plC q ++ placesC l)[j]? = _
      rw [List.getElem?_append_left (by rw [plC_len]; exact hj)]
    | succ i =>
      have h' : l[i]? = some p := by simpa using h
      have := ih i h'
      show (plC q ++ placesC l)[(i + 1) * 7 + j]? = _
      rw [List.getElem?_append_right (by rw [plC_len]; omega), plC_len, show (i + 1) * 7 + j - 7 = i * 7 + j from by omega]
      exact this
theorem Vals.place {w : World} {a : Option Addr} {l : List Pl} (h : Vals w a (placesC l)) (i : Nat) (p : Pl) (hp : l[i]? = some p) :
    ∃ g off, a = some ⟨g, off, none⟩ /\ g < w.heap.size /\ ∀ j, j < 7 -> w.cell? ⟨g, off + (i * 7 + j), none⟩ = (plC p)[j]? := by
  have hi := (List.getElem?_eq_some_iff.1 hp).1
  obtain ⟨g, off, ha, hg, _⟩ := h (i * 7) (by rw [placesC_len]; omega)
  refine ⟨g, off, ha, hg, fun j hj => ?_⟩
  obtain ⟨g', off', ha', _, hc⟩ := h (i * 7 + j) (by rw [placesC_len]; omega)
  rw [ha] at ha'
  cases ha'
  rw [hc, placesC_at l i p hp j hj]
def FindE (w : World) (l : List Pl) (h : Nat) (k : ByteArray) (e : Ending) (w' : World) : Prop :=
  ∃ (i : Nat) (b : Bool), e = .returned (.tuple #[.int .i64 (i : Int), .bool b]) /\ FindR l h k i b /\ Below w.heap.size w w'
theorem toList_inj' {a b : ByteArray} (h : a.toList = b.toList) : a = b := by
  rw [ByteArray.toList_eq, ByteArray.toList_eq] at h
  exact WideShapes.bytes_inj h
theorem find25 (n b cap : Nat) (a : Option Addr) (l : List Pl) (k : ByteArray) (w : World) (hln : l.length = n) (hn : n = 2 ^ b) (hb1 : 1 <= b) (hb : b <= 30) (hk : k.size <= 9223372036854775807) (hv : Vals w a (placesC l)) (hemp : ∃ (i : Nat) (p : Pl), l[i]? = some p /\ p.st = 0) :
    Calls prog 203 #[.agg #[.int .i64 (b : Int), .slice a n cap], .string k] w (FindE w l (homeN b k) k) := by
  obtain ⟨ei, ep, hei, hep⟩ := hemp
  have hel := (List.getElem?_eq_some_iff.1 hei).1
  have hle := pow_le30 hb
  rw [<- hn] at hle
  obtain ⟨hh, hhe⟩ := homeN_lt k b hb1 hb
  rw [<- hn] at hh
  obtain ⟨h, hhn⟩ : ∃ h, homeN b k = h := ⟨_, rfl⟩
  rw [hhn] at hh hhe
  rw [hhn]
  have HO := hid (fun W => home33 b (.slice a n cap) k W hk)
  have AF := hid (fun i (hi : i < n) W => after34 n b i cap (b : Int) a W hn hb hi)
  have HE := hid hhe
  have HV := hid hv
  have EI := hid hei
  have EP := hid hep
  have HLN := hid hln
  rw [hln] at hel
  have hd := dist_lt hh hel
  have hpd := hid (pos_dist hh hel)
  clear hhn hhe hv hn hei hep hln
  go_enter Tryz.func203, Tryz.ntmps203
  go_wp2_with fail
  with_reducible refine (HO.out _).mono ?_
  rintro e w1 ⟨rfl, hb1⟩
  have B1 := hid (show Below (w.heap.size + 1) (w.alloc (.cells #[.int .i64 (b : Int), .slice a n cap] 305)) w1 from hb1.mono (by simp))
  rw [HE.out]
  clear hb1 HO HE
  go_wp2_with fail
  go_loopg [6] (dist n h ei) (fun gk i wr => ∃ t, gk + t = dist n h ei /\ i = .int .i64 (pos n h t : Int) /\ Hid (∀ t', t' < t -> ∃ p, l[pos n h t']? = some p /\ p.st ≠ 0 /\ ¬ (p.st = 1 /\ p.key = k)) /\ Below (w.heap.size + 1) (w.alloc (.cells #[.int .i64 (b : Int), .slice a n cap] 305)) wr)
  case atStart => exact ⟨0, rfl, by rw [pos_zero hh], hid (fun t' h => by omega), B1.out⟩
  case round =>
    obtain ⟨t, hgk, rfl, hno, hbr⟩ := hrel
    have B := hid hbr
    have HGK := hid hgk
    have htn : t < n := by omega
    obtain ⟨i, hi⟩ : ∃ i, pos n h t = i := ⟨_, rfl⟩
    have hin : i < n := by rw [<- hi]; exact pos_lt hh (by omega)
    have HI := hid hi
    rw [hi]
    obtain ⟨p, hp⟩ : ∃ p, l[i]? = some p := ⟨_, List.getElem?_eq_getElem (by rw [HLN.out]; exact hin)⟩
    have HP := hid hp
    have hbw : Below w.heap.size w wr := ((Below.refl w.heap.size w).alloc (Nat.le_refl _) _).trans (hbr.mono (by omega))
    obtain ⟨g, off, rfl, hg, hc⟩ := Vals.place (HV.out.below hbw (Nat.le_refl _)) i p hp
    have c0 := hc 0 (by omega)
    have c1 := hc 1 (by omega)
    simp only [plC, entC, List.getElem?_cons_zero, List.getElem?_cons_succ, Nat.add_zero, <- Nat.add_assoc] at c0 c1
    have q1 : wr.cell? ⟨w.heap.size, 1, none⟩ = some (.slice (some ⟨g, off, none⟩) n cap) := by
      rw [hbr.cell (p := ⟨w.heap.size, 1, none⟩) (by show w.heap.size < _; omega), World.cell?_alloc_at _ _ _ _ rfl]; rfl
    have q0 : wr.cell? ⟨w.heap.size, 0, none⟩ = some (.int .i64 (b : Int)) := by
      rw [hbr.cell (p := ⟨w.heap.size, 0, none⟩) (by show w.heap.size < _; omega), World.cell?_alloc_at _ _ _ _ rfl]; rfl
    have hii : (i : Int) < n := by omega
    clear hgk hbr hi hp hbw hc B1
    by_cases h0 : p.st = 0
    · have hs0 : ((p.st : Int) != 0) = false := by simp [h0]
      have F := hid (show FindR l h k i false from ⟨t, by rw [HLN.out]; exact htn, by rw [HLN.out]; exact HI.out.symm, by rw [HLN.out]; exact hno.out, p, HP.out, .inr ⟨rfl, h0⟩⟩)
      clear h0
      go_wp2_with fail
      go_ret2
      exact ⟨i, false, rfl, F.out, ((Below.refl w.heap.size w).alloc (Nat.le_refl _) _).trans (B.out.mono (by omega))⟩
    · have hs0 : ((p.st : Int) != 0) = true := by simp [h0]
      by_cases h1 : p.st = 1
      · have hs1 : ((p.st : Int) == 1) = true := by simp [h1]
        by_cases hkk : p.key = k
        · have hke : (p.key.toList == k.toList) = true := by rw [hkk]; simp
          have F := hid (show FindR l h k i true from ⟨t, by rw [HLN.out]; exact htn, by rw [HLN.out]; exact HI.out.symm, by rw [HLN.out]; exact hno.out, p, HP.out, .inl ⟨rfl, h1, hkk⟩⟩)
          clear h0 h1 hkk
          go_wp2_with fail
          go_ret2
          exact ⟨i, true, rfl, F.out, ((Below.refl w.heap.size w).alloc (Nat.le_refl _) _).trans (B.out.mono (by omega))⟩
        · have hke : (p.key.toList == k.toList) = false := by
            simp only [beq_eq_false_iff_ne, ne_eq]
            exact fun e => hkk (toList_inj' e)
          have htd : t + 1 <= dist n h ei := by
            rcases Nat.lt_or_ge t (dist n h ei) with ht0 | ht0
            · omega
            · exfalso
              have e : t = dist n h ei := by have := HGK.out; omega
              have := HP.out
              rw [<- HI.out, e, hpd.out, EI.out] at this
              cases this
              exact h0 EP.out
          have NO := hid (show ∀ t', t' < t + 1 -> ∃ p, l[pos n h t']? = some p /\ p.st ≠ 0 /\ ¬ (p.st = 1 /\ p.key = k) from fun t' ht' => by
            by_cases e : t' = t
            · subst e; exact ⟨p, by rw [HI.out]; exact HP.out, h0, fun e => hkk e.2⟩
            · exact hno.out t' (by omega))
          have AFT := hid (AF.out i hin)
          clear h0 h1 hkk
          go_wp2_with fail
          with_reducible refine (AFT.out _).mono ?_
          rintro e w2 ⟨rfl, hb2⟩
          have B2 := hid (B.out.trans (hb2.mono (by have := B.out.size; simp at this; omega)))
          have HNX := hid (show nxt n i = pos n h (t + 1) by rw [<- HI.out]; exact nxt_pos hh (by omega))
          clear hb2 q0 q1 c0 c1
          go_wp2_with fail
          go_roundg (dist n h ei - (t + 1))
          case measure => have := HGK.out; omega
          case rel => exact ⟨t + 1, by omega, by rw [HNX.out], NO, B2.out⟩
      · have hs1 : ((p.st : Int) == 1) = false := by simp; omega
        have htd : t + 1 <= dist n h ei := by
          rcases Nat.lt_or_ge t (dist n h ei) with ht0 | ht0
          · omega
          · exfalso
            have e : t = dist n h ei := by have := HGK.out; omega
            have := HP.out
            rw [<- HI.out, e, hpd.out, EI.out] at this
            cases this
            exact h0 EP.out
        have NO := hid (show ∀ t', t' < t + 1 -> ∃ p, l[pos n h t']? = some p /\ p.st ≠ 0 /\ ¬ (p.st = 1 /\ p.key = k) from fun t' ht' => by
          by_cases e : t' = t
          · subst e; exact ⟨p, by rw [HI.out]; exact HP.out, h0, fun e => h1 e.1⟩
          · exact hno.out t' (by omega))
        have AFT := hid (AF.out i hin)
        clear h0 h1
        go_wp2_with fail
        with_reducible refine (AFT.out _).mono ?_
        rintro e w2 ⟨rfl, hb2⟩
        have B2 := hid (B.out.trans (hb2.mono (by have := B.out.size; simp at this; omega)))
        have HNX := hid (show nxt n i = pos n h (t + 1) by rw [<- HI.out]; exact nxt_pos hh (by omega))
        clear hb2 q0 q1 c0 c1
        go_wp2_with fail
        go_roundg (dist n h ei - (t + 1))
        case measure => have := HGK.out; omega
        case rel => exact ⟨t + 1, by omega, by rw [HNX.out], NO, B2.out⟩
structure Tab where
  nb : Nat
  now : List Pl
  ob : Nat
  old : List Pl
  at' : Nat
  oldLen : Nat
  nowLen : Nat
  work : Nat
def tabC (T : Tab) (vn vo : Value) : Array Value := #[.int .i64 (T.nb : Int), vn, .int .i64 (T.ob : Int), vo, .int .i64 (T.at' : Int), .int .i64 (T.oldLen : Int), .int .i64 (T.nowLen : Int), .int .i64 (T.work : Int)]
structure Tb (w : World) (tb : Nat) (vn vo : Value) (T : Tab) : Prop where
  blk : w.heap[tb]? = some (.cells (tabC T vn vo) 307 (0, 0))
  now : w.ownsRow 0 310 7 vn T.now.length (placesC T.now)
  old : w.ownsRow 0 310 7 vo T.old.length (placesC T.old)
  ne : ∀ g, vn.ownBlock = some g -> vo.ownBlock ≠ some g
  nn : vn.ownBlock ≠ some tb
  no : vo.ownBlock ≠ some tb
def tfoot (tb : Nat) (vn vo : Value) : Nat -> Prop := fun k => k = tb \/ vn.ownBlock = some k \/ vo.ownBlock = some k
theorem Tb.frame {w w' : World} {tb : Nat} {vn vo : Value} {T : Tab} {S : Nat -> Prop} (h : Tb w tb vn vo T) (hf : Fr S w w') (hS : ∀ k, tfoot tb vn vo k -> ¬ S k) : Tb w' tb vn vo T :=
  ⟨(hf.block tb (lB h.blk) (hS tb (.inl rfl))).trans h.blk, own_fr h.now hf (fun g hg => hS g (.inr (.inl hg))), own_fr h.old hf (fun g hg => hS g (.inr (.inr hg))), h.ne, h.nn, h.no⟩
theorem Tb.below {w w' : World} {tb : Nat} {vn vo : Value} {T : Tab} (h : Tb w tb vn vo T) (hb : Below w.heap.size w w') : Tb w' tb vn vo T := h.frame (S := fun _ => False) (.of_below hb) (fun _ _ f => f)
theorem Tb.lt {w : World} {tb : Nat} {vn vo : Value} {T : Tab} (h : Tb w tb vn vo T) : ∀ k, tfoot tb vn vo k -> k < w.heap.size := by
  rintro k (rfl | e | e)
  · exact lB h.blk
  · exact (h.now.lt k e).2
  · exact (h.old.lt k e).2
def set7 (w : World) (g i : Nat) (p : Pl) : World :=
  ((((((w.setCell ⟨g, i * 7, none⟩ (.int .i64 (p.st : Int))).setCell ⟨g, i * 7 + 1, none⟩ (.string p.key)).setCell ⟨g, i * 7 + 2, none⟩ (.int .i64 p.en.seq)).setCell ⟨g, i * 7 + 3, none⟩ (.int .i64 p.en.off)).setCell ⟨g, i * 7 + 4, none⟩ (.int .i64 p.en.len)).setCell ⟨g, i * 7 + 5, none⟩ (.int .i64 p.en.exp)).setCell ⟨g, i * 7 + 6, none⟩ (.bool p.en.hit)
theorem placesC_set (l : List Pl) (i : Nat) (p : Pl) : placesC (l.set i p) = (((((((placesC l).set (i * 7) (.int .i64 (p.st : Int))).set (i * 7 + 1) (.string p.key)).set (i * 7 + 2) (.int .i64 p.en.seq)).set (i * 7 + 3) (.int .i64 p.en.off)).set (i * 7 + 4) (.int .i64 p.en.len)).set (i * 7 + 5) (.int .i64 p.en.exp)).set (i * 7 + 6) (.bool p.en.hit) := by
  induction l generalizing i with
  | nil => simp [placesC]
  | cons q l ih =>
    cases i with
    | zero => rfl
    | succ i =>
      have e : ∀ j, (i + 1) * 7 + j = (i * 7 + j) + 1 + 1 + 1 + 1 + 1 + 1 + 1 := fun j => by omega
      have e0 : (i + 1) * 7 = (i * 7) + 1 + 1 + 1 + 1 + 1 + 1 + 1 := by omega
      rw [List.set_cons_succ]
      show plC q ++ placesC (l.set i p) = _
      rw [ih, e 1, e 2, e 3, e 4, e 5, e 6, e0]
      rfl
theorem grown_tr7 {a b c : World} {r : Option Nat} (h : a.grownBy b r) (k : b.grownBy c r) : a.grownBy c r :=
  ⟨k.os.trans h.os, k.tape.trans h.tape, k.output.trans h.output, Nat.le_trans h.size k.size, fun j hj hne => (k.block j (Nat.lt_of_lt_of_le hj h.size) hne).trans (h.block j hj hne)⟩
theorem own_set7 {w : World} {g cap n : Nat} {l : List Pl} (h : w.ownsRow 0 310 7 (.slice (some ⟨g, 0, none⟩) n cap) n (placesC l)) (i : Nat) (p : Pl) :
    (set7 w g i p).ownsRow 0 310 7 (.slice (some ⟨g, 0, none⟩) n cap) n (placesC (l.set i p)) /\ w.grownBy (set7 w g i p) (some g) := by
  obtain ⟨s0, g0⟩ := h.stored (i * 7) (.int .i64 (p.st : Int))
  obtain ⟨s1, g1⟩ := s0.stored (i * 7 + 1) (.string p.key)
  obtain ⟨s2, g2⟩ := s1.stored (i * 7 + 2) (.int .i64 p.en.seq)
  obtain ⟨s3, g3⟩ := s2.stored (i * 7 + 3) (.int .i64 p.en.off)
  obtain ⟨s4, g4⟩ := s3.stored (i * 7 + 4) (.int .i64 p.en.len)
  obtain ⟨s5, g5⟩ := s4.stored (i * 7 + 5) (.int .i64 p.en.exp)
  obtain ⟨s6, g6⟩ := s5.stored (i * 7 + 6) (.bool p.en.hit)
  rw [placesC_set]
  exact ⟨s6, grown_tr7 (grown_tr7 (grown_tr7 (grown_tr7 (grown_tr7 (grown_tr7 g0 g1) g2) g3) g4) g5) g6⟩
theorem own_cells {w : World} {g cap n : Nat} {l : List Pl} (h : w.ownsRow 0 310 7 (.slice (some ⟨g, 0, none⟩) n cap) n (placesC l)) (i : Nat) (p : Pl) (hp : l[i]? = some p) :
    (w.cell? ⟨g, i * 7, none⟩ = some (.int .i64 (p.st : Int)) /\ w.cell? ⟨g, i * 7 + 1, none⟩ = some (.string p.key) /\ w.cell? ⟨g, i * 7 + 2, none⟩ = some (.int .i64 p.en.seq) /\ w.cell? ⟨g, i * 7 + 3, none⟩ = some (.int .i64 p.en.off) /\
      w.cell? ⟨g, i * 7 + 4, none⟩ = some (.int .i64 p.en.len) /\ w.cell? ⟨g, i * 7 + 5, none⟩ = some (.int .i64 p.en.exp) /\ w.cell? ⟨g, i * 7 + 6, none⟩ = some (.bool p.en.hit)) /\
    (w.frozen? ⟨g, i * 7, none⟩ = false /\ w.frozen? ⟨g, i * 7 + 1, none⟩ = false /\ w.frozen? ⟨g, i * 7 + 2, none⟩ = false /\ w.frozen? ⟨g, i * 7 + 3, none⟩ = false /\ w.frozen? ⟨g, i * 7 + 4, none⟩ = false /\ w.frozen? ⟨g, i * 7 + 5, none⟩ = false /\ w.frozen? ⟨g, i * 7 + 6, none⟩ = false) := by
  have hi := (List.getElem?_eq_some_iff.1 hp).1
  have hl : (placesC l).length = n * 7 := h.1
  rw [placesC_len] at hl
  have c : ∀ j, j < 7 -> w.cell? ⟨g, i * 7 + j, none⟩ = (plC p)[j]? := fun j hj => by
    rw [h.cellAt (i * 7 + j) (by omega), placesC_at l i p hp j hj]
  refine ⟨⟨c 0 (by omega), c 1 (by omega), c 2 (by omega), c 3 (by omega), c 4 (by omega), c 5 (by omega), c 6 (by omega)⟩, h.frozenAt _, h.frozenAt _, h.frozenAt _, h.frozenAt _, h.frozenAt _, h.frozenAt _, h.frozenAt _⟩
theorem own_slice7 {w : World} {v : Value} {l : List Pl} (h : w.ownsRow 0 310 7 v l.length (placesC l)) (hl : 0 < l.length) : ∃ g cap, v = .slice (some ⟨g, 0, none⟩) l.length cap /\ l.length <= cap := by
  rcases h.2 with ⟨rfl, h0⟩ | ⟨g, cap, cur, hv, _, _, h1, _⟩
  · omega
  · exact ⟨g, cap, hv, h1⟩
def Tab.put (T : Tab) (i : Nat) (b : Bool) (k : ByteArray) (e : Ent) : Tab := { T with now := T.now.set i ⟨1, k, e⟩, nowLen := T.nowLen + (if b = true then 0 else 1) }
abbrev entV (e : Ent) : Value := .agg #[.int .i64 e.seq, .int .i64 e.off, .int .i64 e.len, .int .i64 e.exp, .bool e.hit]
theorem Tb.cells {w : World} {tb : Nat} {vn vo : Value} {T : Tab} (h : Tb w tb vn vo T) :
    (w.cell? ⟨tb, 0, none⟩ = some (.int .i64 (T.nb : Int)) /\ w.cell? ⟨tb, 1, none⟩ = some vn /\ w.cell? ⟨tb, 2, none⟩ = some (.int .i64 (T.ob : Int)) /\ w.cell? ⟨tb, 3, none⟩ = some vo /\
      w.cell? ⟨tb, 4, none⟩ = some (.int .i64 (T.at' : Int)) /\ w.cell? ⟨tb, 5, none⟩ = some (.int .i64 (T.oldLen : Int)) /\ w.cell? ⟨tb, 6, none⟩ = some (.int .i64 (T.nowLen : Int)) /\ w.cell? ⟨tb, 7, none⟩ = some (.int .i64 (T.work : Int))) /\
    ∀ i, w.frozen? ⟨tb, i, none⟩ = false := by
  have c : ∀ i, w.cell? ⟨tb, i, none⟩ = (tabC T vn vo)[i]? := fun i => qB h.blk
  exact ⟨⟨c 0, c 1, c 2, c 3, c 4, c 5, c 6, c 7⟩, fun i => zB h.blk⟩
theorem Tb.setNowLen {w : World} {tb : Nat} {vn vo : Value} {T : Tab} (h : Tb w tb vn vo T) (m : Nat) : Tb (w.setCell ⟨tb, 6, none⟩ (.int .i64 (m : Int))) tb vn vo { T with nowLen := m } /\ Fr (fun k => k = tb) w (w.setCell ⟨tb, 6, none⟩ (.int .i64 (m : Int))) := by
  have hs : (w.setCell ⟨tb, 6, none⟩ (.int .i64 (m : Int))).heap.size = w.heap.size := by simp [World.setCell]
  have hf : Fr (fun k => k = tb) w (w.setCell ⟨tb, 6, none⟩ (.int .i64 (m : Int))) := ⟨rfl, rfl, rfl, by omega, fun k _ hne => Below.heap_setCell _ _ _ _ hne⟩
  exact ⟨⟨by rw [uB h.blk]; rfl, own_fr h.now hf (fun g hg e => by subst e; exact h.nn hg), own_fr h.old hf (fun g hg e => by subst e; exact h.no hg), h.ne, h.nn, h.no⟩, hf⟩
theorem Tb.setNow {w : World} {tb g cap : Nat} {vo : Value} {T : Tab} (h : Tb w tb (.slice (some ⟨g, 0, none⟩) T.now.length cap) vo T) (i : Nat) (p : Pl) :
    Tb (set7 w g i p) tb (.slice (some ⟨g, 0, none⟩) T.now.length cap) vo { T with now := T.now.set i p } /\ Fr (fun k => k = g) w (set7 w g i p) := by
  obtain ⟨o1, g1⟩ := own_set7 h.now i p
  have hf : Fr (fun k => k = g) w (set7 w g i p) := .of_grown g1 (by rintro k e; cases e; rfl)
  have hg : (Value.slice (some ⟨g, 0, none⟩) T.now.length cap).ownBlock = some g := rfl
  refine ⟨⟨(hf.block tb (lB h.blk) (fun e => h.nn (by rw [hg, e]))).trans h.blk, ?_, own_fr h.old hf (fun j hj e => h.ne g hg (by rw [hj, e])), h.ne, h.nn, h.no⟩, hf⟩
  rw [List.length_set]; exact o1
theorem put_end {w w1 : World} {tb g cap : Nat} {vo : Value} {T : Tab} (h : Tb w1 tb (.slice (some ⟨g, 0, none⟩) T.now.length cap) vo T) (hf : Fr (fun j => j = tb \/ g = j) w w1) (i : Nat) (b : Bool) (k : ByteArray) (e : Ent) :
    Tb (set7 w1 g i ⟨1, k, e⟩).drew tb (.slice (some ⟨g, 0, none⟩) T.now.length cap) vo (T.put i true k e) /\ Fr (fun j => j = tb \/ (Value.slice (some ⟨g, 0, none⟩) T.now.length cap).ownBlock = some j) w (set7 w1 g i ⟨1, k, e⟩).drew := by
  obtain ⟨h1, h2⟩ := h.setNow i ⟨1, k, e⟩
  refine ⟨h1.below (Below.refl _ _).drew, ((hf.trans h2 (fun j hj => .inl (.inr hj.symm))).mono (fun j _ hj => ?_)).drew⟩
  exact hj.imp id (fun hj => by subst hj; rfl)
theorem put27 (tb : Nat) (vn vo : Value) (T : Tab) (k : ByteArray) (e : Ent) (w : World) (h : Tb w tb vn vo T) (hn : T.now.length = 2 ^ T.nb) (hb1 : 1 <= T.nb) (hb : T.nb <= 30) (hk : k.size <= 9223372036854775807) (hnl : T.nowLen <= 2000000000) (hemp : ∃ (i : Nat) (p : Pl), T.now[i]? = some p /\ p.st = 0) :
    Calls prog 205 #[.pointer (some ⟨tb, 0, none⟩), .string k, entV e] w fun e' w' => e' = .returned (.tuple #[]) /\
      ∃ (i : Nat) (b : Bool), FindR T.now (homeN T.nb k) k i b /\ Tb w' tb vn vo (T.put i b k e) /\ Fr (fun j => j = tb \/ vn.ownBlock = some j) w w' := by
  have hle := pow_le30 hb
  obtain ⟨g, cap, rfl, hcap⟩ := own_slice7 h.now (by rw [hn]; exact Nat.pow_pos (by omega))
  have hbx : Below w.heap.size w (w.alloc (.cells #[.int .i64 e.seq, .int .i64 e.off, .int .i64 e.len, .int .i64 e.exp, .bool e.hit] 110)) := (Below.refl _ _).alloc (Nat.le_refl _) _
  have HA := hid (h.below hbx)
  obtain ⟨⟨t0, t1, t2, t3, t4, t5, t6, t7⟩, tf⟩ := h.cells
  obtain ⟨_, _, hvs, hv, _, _, _, _, _⟩ := ownsRow_vals HA.out.now
  cases hvs
  have FI := hid (find25 T.now.length T.nb cap (some ⟨g, 0, none⟩) T.now k _ rfl hn hb1 hb hk hv hemp)
  have tlt := lB h.blk
  have HH := hid h
  rw [<- hn] at hle
  have HN := hid hn
  clear h hbx t2 t3 t4 t5 t7 hv hn hemp
  unfold entV
  go_enter Tryz.func205, Tryz.ntmps205
  go_wp2_with fail
  with_reducible refine FI.out.mono ?_
  rintro e' w1 ⟨i, b, rfl, hfr, hb1'⟩
  have A1 := hid (HA.out.below hb1')
  have hbw : Below w.heap.size w w1 := ((Below.refl w.heap.size w).alloc (Nat.le_refl _) _).trans (hb1'.mono (by simp))
  have hx : w1.heap[w.heap.size]? = some (.cells #[.int .i64 e.seq, .int .i64 e.off, .int .i64 e.len, .int .i64 e.exp, .bool e.hit] 110 (0, 0)) := by
    rw [hb1'.block w.heap.size (by simp)]
    show (w.heap.push _)[w.heap.size]? = _
    simp
  have HX := hid hx
  have F1 := hid (Fr.of_below (S := fun j => j = tb \/ g = j) hbw)
  have HFR := hid hfr
  have hin : i < T.now.length := by
    obtain ⟨t, ht, hi, _⟩ := hfr
    obtain ⟨hh, _⟩ := homeN_lt k T.nb hb1 hb
    have hz : T.now.length = 2 ^ T.nb := HN.out
    rw [hi]; exact pos_lt (by omega) (by omega)
  obtain ⟨p, hp⟩ : ∃ p, T.now[i]? = some p := ⟨_, List.getElem?_eq_getElem hin⟩
  have HP := hid hp
  have hii : (i : Int) < T.now.length := by omega
  have hgt : g ≠ tb := fun e => HH.out.nn (by rw [e]; rfl)
  have hgx : g ≠ w.heap.size := fun e => by have := HH.out.lt g (.inr (.inl rfl)); omega
  have htx : tb ≠ w.heap.size := by omega
  clear hb1' hx hfr hp hbw t0 t1 t6 tf
  cases b with
  | true =>
    obtain ⟨⟨t0, t1, _, _, _, _, _, _⟩, tf⟩ := A1.out.cells
    obtain ⟨⟨c0, c1, c2, c3, c4, c5, c6⟩, ⟨f0, f1, f2, f3, f4, f5, f6⟩⟩ := own_cells A1.out.now i p HP.out
    have x0 := qB (i := 0) HX.out; have x1 := qB (i := 1) HX.out; have x2 := qB (i := 2) HX.out; have x3 := qB (i := 3) HX.out; have x4 := qB (i := 4) HX.out
    simp only [List.getElem?_toArray, List.getElem?_cons_zero, List.getElem?_cons_succ] at x0 x1 x2 x3 x4
    go_wp2_with fail
    go_region
    go_end0
    exact ⟨rfl, i, true, HFR.out, put_end A1.out F1.out i true k e⟩
  | false =>
    have S1 := A1.out.setNowLen (T.nowLen + 1)
    rw [show ((T.nowLen + 1 : Nat) : Int) = (T.nowLen : Int) + 1 from by omega] at S1
    obtain ⟨⟨t0, t1, _, _, _, _, t6, _⟩, tf⟩ := A1.out.cells
    have HX2 : Hid ((w1.setCell ⟨tb, 6, none⟩ (.int .i64 ((T.nowLen : Int) + 1))).heap[w.heap.size]? = some (.cells #[.int .i64 e.seq, .int .i64 e.off, .int .i64 e.len, .int .i64 e.exp, .bool e.hit] 110 (0, 0))) :=
      hid ((Below.heap_setCell _ _ _ _ (Ne.symm htx)).trans HX.out)
    have S1H := hid S1
    clear S1
    go_upto_region 4 with fail
    obtain ⟨w2, hw2⟩ : ∃ w2, w1.setCell ⟨tb, 6, none⟩ (.int .i64 ((T.nowLen : Int) + 1)) = w2 := ⟨_, rfl⟩
    rw [hw2] at S1H HX2 ⊢
    clear hw2 t0 t1 t6 tf
    obtain ⟨⟨t0, t1, _, _, _, _, _, _⟩, tf⟩ := S1H.out.1.cells
    obtain ⟨⟨c0, c1, c2, c3, c4, c5, c6⟩, ⟨f0, f1, f2, f3, f4, f5, f6⟩⟩ := own_cells S1H.out.1.now i p HP.out
    have x0 := qB (i := 0) HX2.out; have x1 := qB (i := 1) HX2.out; have x2 := qB (i := 2) HX2.out; have x3 := qB (i := 3) HX2.out; have x4 := qB (i := 4) HX2.out
    simp only [List.getElem?_toArray, List.getElem?_cons_zero, List.getElem?_cons_succ] at x0 x1 x2 x3 x4
    go_wp2_with fail
    go_region
    go_end0
    exact ⟨rfl, i, false, HFR.out, put_end (T := { T with nowLen := T.nowLen + 1 }) S1H.out.1 (F1.out.trans S1H.out.2 (fun j h => .inl (.inl h))) i true k e⟩
end Go.Proofs.YtbikkioipamlmaaGreatDoor.T16
namespace Go.Proofs.YtbikkioipamlmaaGreatDoor.T16
structure TI (T : Tab) : Prop where
  n3 : 3 <= T.nb
  n30 : T.nb <= 30
  nlen : T.now.length = 2 ^ T.nb
  inow : Inv (homeN T.nb) T.now
  snow : ∀ p ∈ T.now, p.st = 0 \/ p.st = 1
  cnow : usedN T.now = T.nowLen
  iold : (T.old = [] /\ T.at' = 0) \/ (T.old.length = 2 ^ T.ob /\ 1 <= T.ob /\ T.ob <= 30 /\ Inv (homeN T.ob) T.old /\ ∃ (i : Nat) (p : Pl), T.old[i]? = some p /\ p.st = 0)
  cold : usedN T.old = T.oldLen
  at0 : ∀ (i : Nat) (p : Pl), i < T.at' -> T.old[i]? = some p -> p.st ≠ 1
  disj : ∀ k e e', HasK T.now k e -> ¬ HasK T.old k e'
  cap : 4 * (T.nowLen + T.oldLen) <= 3 * 2 ^ T.nb
  slack : T.oldLen + 8 * (T.nowLen + T.oldLen) <= 6 * 2 ^ T.nb
  ks : ∀ k e, HasK T.now k e \/ HasK T.old k e -> k.size <= 9223372036854775807
def Has (T : Tab) (k : ByteArray) (e : Ent) : Prop := HasK T.now k e \/ HasK T.old k e
theorem TI.emp {T : Tab} (h : TI T) : ∃ (i : Nat) (p : Pl), T.now[i]? = some p /\ p.st = 0 := by
  refine empty_of_used h.snow ?_
  have h1 := h.cap
  have h2 := h.cnow
  have h3 := h.nlen
  have hp : 0 < 2 ^ T.nb := Nat.pow_pos (by omega)
  omega
theorem TI.len_le {T : Tab} (h : TI T) : T.nowLen + T.oldLen <= 1073741824 := by
  have := h.cap
  have := pow_le30 h.n30
  omega
theorem TI.skip {T : Tab} (h : TI T) (hne : T.old ≠ []) {p : Pl} (hp : T.old[T.at']? = some p) (h1 : p.st ≠ 1) : TI { T with at' := T.at' + 1 } := by
  refine ⟨h.n3, h.n30, h.nlen, h.inow, h.snow, h.cnow, ?_, h.cold, fun i q hi hq => ?_, h.disj, h.cap, h.slack, h.ks⟩
  · exact .inr (h.iold.resolve_left (fun e => hne e.1))
  · by_cases e : i = T.at'
    · subst e; rw [hp] at hq; cases hq; exact h1
    · exact h.at0 i q (by simp only at hi; omega) hq
theorem put_has {T : Tab} (h : TI T) {i : Nat} {b : Bool} {k : ByteArray} {e : Ent} (f : FindR T.now (homeN T.nb k) k i b) (k' : ByteArray) (e' : Ent) : HasK (T.now.set i ⟨1, k, e⟩) k' e' ↔ (k' = k /\ e' = e) \/ (k' ≠ k /\ HasK T.now k' e') := by
  have hil : i < T.now.length := by
    cases b with
    | true => obtain ⟨p, hp, _⟩ := find_true f; exact (List.getElem?_eq_some_iff.1 hp).1
    | false => obtain ⟨p, hp, _⟩ := find_false f; exact (List.getElem?_eq_some_iff.1 hp).1
  rw [has_set hil]
  constructor
  · rintro (⟨_, h1, h2⟩ | ⟨j, p, hji, hj, hp, hk, he⟩)
    · exact .inl ⟨h1.symm, h2.symm⟩
    · refine .inr ⟨fun e0 => ?_, j, p, hj, hp, hk, he⟩
      cases b with
      | true =>
        obtain ⟨q, hq, hq1, hqk⟩ := find_true f
        exact hji (h.inow.uniq j i p q hj hq hp hq1 (by rw [hk, hqk, e0]))
      | false => exact find_none h.inow f p.en ⟨j, p, hj, hp, hk.trans e0, rfl⟩
  · rintro (⟨rfl, rfl⟩ | ⟨hne, j, p, hj, hp, hk, he⟩)
    · exact .inl ⟨rfl, rfl, rfl⟩
    · refine .inr ⟨j, p, fun e0 => ?_, hj, hp, hk, he⟩
      subst e0
      cases b with
      | true =>
        obtain ⟨q, hq, hq1, hqk⟩ := find_true f
        rw [hj] at hq; cases hq
        exact hne (hk.symm.trans hqk)
      | false =>
        obtain ⟨q, hq, hq1⟩ := find_false f
        rw [hj] at hq; cases hq
        omega
theorem put_used {l : List Pl} {h i : Nat} {b : Bool} {k : ByteArray} {e : Ent} (f : FindR l h k i b) : usedN (l.set i ⟨1, k, e⟩) = usedN l + (if b = true then 0 else 1) := by
  cases b with
  | true =>
    obtain ⟨p, hp, h1, _⟩ := find_true f
    have := used_set (q := ⟨1, k, e⟩) hp
    rw [if_pos h1, if_pos rfl] at this
    simp; omega
  | false =>
    obtain ⟨p, hp, h1⟩ := find_false f
    have := used_set (q := ⟨1, k, e⟩) hp
    rw [if_neg (by omega), if_pos rfl] at this
    simp; omega
theorem put_inv {T : Tab} (h : TI T) {i : Nat} {b : Bool} {k : ByteArray} {e : Ent} (f : FindR T.now (homeN T.nb k) k i b) : Inv (homeN T.nb) (T.now.set i ⟨1, k, e⟩) := by
  cases b with
  | true => exact h.inow.put_old f
  | false => exact h.inow.put_new f
theorem put_st {T : Tab} (h : TI T) (i : Nat) (k : ByteArray) (e : Ent) : ∀ p ∈ T.now.set i ⟨1, k, e⟩, p.st = 0 \/ p.st = 1 := by
  intro p hp
  rcases List.mem_or_eq_of_mem_set hp with h1 | h1
  · exact h.snow p h1
  · rw [h1]; exact .inr rfl
def Tab.goneAt (T : Tab) (i : Nat) : Tab := { T with old := T.old.set i pGone, oldLen := T.oldLen - 1 }
theorem gone_has {l : List Pl} {home : ByteArray -> Nat} (hI : Inv home l) {i : Nat} {p : Pl} (hp : l[i]? = some p) (h1 : p.st = 1) (k' : ByteArray) (e' : Ent) : HasK (l.set i pGone) k' e' ↔ k' ≠ p.key /\ HasK l k' e' := by
  have hil := (List.getElem?_eq_some_iff.1 hp).1
  rw [has_set hil, or_iff_right (by simp [pGone])]
  constructor
  · rintro ⟨j, q, hji, hj, hq, hk, he⟩
    exact ⟨fun e0 => hji (hI.uniq j i q p hj hp hq h1 (hk.trans e0)), j, q, hj, hq, hk, he⟩
  · rintro ⟨hne, j, q, hj, hq, hk, he⟩
    exact ⟨j, q, fun e0 => by subst e0; rw [hp] at hj; cases hj; exact hne hk.symm, hj, hq, hk, he⟩
theorem gone_used {l : List Pl} {i : Nat} {p : Pl} (hp : l[i]? = some p) (h1 : p.st = 1) : usedN (l.set i pGone) + 1 = usedN l := by
  have := used_set (q := pGone) hp
  rw [if_pos h1, if_neg (by simp [pGone])] at this
  omega
theorem TI.old_inv {T : Tab} (h : TI T) {i : Nat} {p : Pl} (hp : T.old[i]? = some p) : T.old.length = 2 ^ T.ob /\ 1 <= T.ob /\ T.ob <= 30 /\ Inv (homeN T.ob) T.old /\ ∃ (i : Nat) (p : Pl), T.old[i]? = some p /\ p.st = 0 := by
  refine h.iold.resolve_left (fun e => ?_)
  rw [e.1] at hp
  simp at hp
theorem TI.gone {T : Tab} (h : TI T) {i : Nat} {p : Pl} (hp : T.old[i]? = some p) (h1 : p.st = 1) : TI (T.goneAt i) /\ (T.goneAt i).oldLen + 1 = T.oldLen /\ ∀ k e, HasK (T.goneAt i).old k e ↔ k ≠ p.key /\ HasK T.old k e := by
  obtain ⟨o1, o2, o3, o4, j, q, hj, hq⟩ := h.old_inv hp
  have hil := (List.getElem?_eq_some_iff.1 hp).1
  have hu := gone_used hp h1
  have hh := gone_has o4 hp h1
  have hc := h.cold
  have hcap := h.cap
  have hsl := h.slack
  have e1 : (T.goneAt i).oldLen + 1 = T.oldLen := by unfold Tab.goneAt; simp only; omega
  refine ⟨⟨h.n3, h.n30, h.nlen, h.inow, h.snow, h.cnow, .inr ⟨by unfold Tab.goneAt; simp only [List.length_set]; exact o1, o2, o3, o4.gone hil, ?_⟩, ?_, ?_, ?_, ?_, ?_, ?_⟩, e1, hh⟩
  · refine ⟨j, q, ?_, hq⟩
    unfold Tab.goneAt
    simp only
    rw [List.getElem?_set, if_neg (fun e => by subst e; rw [hp] at hj; cases hj; omega)]
    exact hj
  · unfold Tab.goneAt at e1 ⊢; simp only at e1 ⊢; omega
  · intro a r ha hr
    unfold Tab.goneAt at ha hr
    simp only at ha hr
    rw [List.getElem?_set] at hr
    by_cases ei : i = a
    · rw [if_pos ei, if_pos hil] at hr
      cases hr; simp [pGone]
    · rw [if_neg ei] at hr
      exact h.at0 a r ha hr
  · intro k e e' hk hk'
    exact h.disj k e e' hk ((hh k e').1 hk').2
  · show 4 * (T.nowLen + (T.goneAt i).oldLen) <= 3 * 2 ^ T.nb
    omega
  · show (T.goneAt i).oldLen + 8 * (T.nowLen + (T.goneAt i).oldLen) <= 6 * 2 ^ T.nb
    omega
  · intro k e hk
    exact h.ks k e (hk.imp id (fun hk => ((hh k e).1 hk).2))
def Tab.moved (T : Tab) (i : Nat) (p : Pl) : Tab := { T with now := T.now.set i ⟨1, p.key, p.en⟩, nowLen := T.nowLen + 1, old := T.old.set T.at' pGone, oldLen := T.oldLen - 1, work := T.work + 1, at' := T.at' + 1 }
theorem TI.moved {T : Tab} (h : TI T) {i : Nat} {b : Bool} {p : Pl} (hp : T.old[T.at']? = some p) (h1 : p.st = 1) (f : FindR T.now (homeN T.nb p.key) p.key i b) :
    b = false /\ TI (T.moved i p) /\ (T.moved i p).oldLen + 1 = T.oldLen /\ ∀ k e, Has (T.moved i p) k e ↔ Has T k e := by
  have hb : b = false := by
    cases b with
    | false => rfl
    | true =>
      obtain ⟨q, hq, hq1, hqk⟩ := find_true f
      exact absurd ⟨T.at', p, hp, h1, rfl, rfl⟩ (h.disj p.key q.en p.en ⟨i, q, hq, hq1, hqk, rfl⟩)
  subst hb
  obtain ⟨g1, g2, g3⟩ := h.gone hp h1
  have hput := put_has h (e := p.en) f
  have hu := put_used (e := p.en) f
  have hcn := h.cnow
  have hgo : HasK T.old p.key p.en := ⟨T.at', p, hp, h1, rfl, rfl⟩
  have hold : ∀ k e, HasK T.old k e -> k = p.key -> e = p.en := fun k e ⟨j, q, hj, hq, hk, he⟩ hkk => by
    obtain ⟨_, _, _, o4, _⟩ := h.old_inv hp
    have := o4.uniq j T.at' q p hj hp hq h1 (hk.trans hkk)
    subst this
    rw [hp] at hj; cases hj; exact he.symm
  have e2 : (T.moved i p).oldLen = (T.goneAt T.at').oldLen := rfl
  have e3 : (T.moved i p).nowLen = T.nowLen + 1 := rfl
  have e4 : (T.moved i p).nb = T.nb := rfl
  have hcap := h.cap
  have hsl := h.slack
  refine ⟨rfl, ⟨h.n3, h.n30, by show (T.now.set i _).length = _; rw [List.length_set]; exact h.nlen, put_inv h f, put_st h i _ _, ?_, ?_, g1.cold, ?_, ?_, ?_, ?_, ?_⟩, g2, fun k e => ?_⟩
  · show usedN (T.now.set i _) = T.nowLen + 1
    rw [hu]; simp; omega
  · rcases g1.iold with ⟨e, _⟩ | e
    · exfalso
      have : (T.old.set T.at' pGone).length = 0 := by rw [show T.old.set T.at' pGone = [] from e]; rfl
      rw [List.length_set] at this
      have := (List.getElem?_eq_some_iff.1 hp).1
      omega
    · exact .inr e
  · intro a r ha hr
    have hr' : (T.goneAt T.at').old[a]? = some r := hr
    by_cases ea : a = T.at'
    · subst ea
      unfold Tab.goneAt at hr'
      simp only at hr'
      rw [List.getElem?_set, if_pos rfl] at hr'
      split at hr'
      · cases hr'; simp [pGone]
      · cases hr'
    · exact g1.at0 a r (by have : a < T.at' + 1 := ha; show a < T.at'; omega) hr'
  · intro k e e' hk hk'
    have hk2 := (g3 k e').1 hk'
    rcases (hput k e).1 hk with ⟨rfl, _⟩ | ⟨_, hk3⟩
    · exact hk2.1 rfl
    · exact h.disj k e e' hk3 hk2.2
  · rw [e2, e3, e4]; omega
  · rw [e2, e3, e4]; omega
  · intro k e hk
    rcases hk with hk | hk
    · rcases (hput k e).1 hk with ⟨rfl, rfl⟩ | ⟨_, hk3⟩
      · exact h.ks _ _ (.inr hgo)
      · exact h.ks k e (.inl hk3)
    · exact h.ks k e (.inr ((g3 k e).1 hk).2)
  · constructor
    · rintro (hk | hk)
      · rcases (hput k e).1 hk with ⟨rfl, rfl⟩ | ⟨_, hk3⟩
        · exact .inr hgo
        · exact .inl hk3
      · exact .inr ((g3 k e).1 hk).2
    · rintro (hk | hk)
      · refine .inl ((hput k e).2 (.inr ⟨fun e0 => ?_, hk⟩))
        subst e0
        exact h.disj _ _ _ hk hgo
      · by_cases e0 : k = p.key
        · exact .inl ((hput k e).2 (.inl ⟨e0, hold k e hk e0⟩))
        · exact .inr ((g3 k e).2 ⟨e0, hk⟩)
def Tab.noOld (T : Tab) : Tab := { T with ob := 0, old := [], at' := 0 }
theorem TI.noOld {T : Tab} (h : TI T) (h0 : T.oldLen = 0) : TI T.noOld /\ ∀ k e, Has T.noOld k e ↔ Has T k e := by
  have hz := used_zero (h.cold.trans h0)
  have hnil : ∀ k e, ¬ HasK ([] : List Pl) k e := fun k e ⟨i, p, hp, _⟩ => by simp at hp
  refine ⟨⟨h.n3, h.n30, h.nlen, h.inow, h.snow, h.cnow, .inl ⟨rfl, rfl⟩, by show usedN [] = T.oldLen; rw [h0]; rfl, fun i p hi => by simp [Tab.noOld] at hi, fun k e e' hk hk' => hnil k e' hk', h.cap, h.slack, fun k e hk => h.ks k e (hk.imp id (fun hk => absurd hk (hnil k e)))⟩, fun k e => ?_⟩
  exact ⟨fun hk => hk.imp id (fun hk => absurd hk (hnil k e)), fun hk => .inl (hk.resolve_right (hz k e))⟩
end Go.Proofs.YtbikkioipamlmaaGreatDoor.T16
