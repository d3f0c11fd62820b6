/-
  Laws and contracts for the statement TopExpired.
-/
import Derived.Test.YtbikkioipamlmaaGreatDoorX14
open Go.Lib (hid)
open Go.Proofs.Tryz (prog)
set_option linter.unusedVariables false
set_option linter.unusedSimpArgs false
set_option maxRecDepth 100000
set_option maxHeartbeats 20000000
namespace Go.Proofs.YtbikkioipamlmaaGreatDoor
open Go.RowKit
def rbit (x c : Int) (k : Nat) : Int := if bits .and .u32 (bits .xor .u32 c (x / 2 ^ k % 4294967296)) 1 = 1 then bits .xor .u32 (c / 2) 2197175160 else c / 2
def rbits (x c : Int) : Nat -> Int
  | 0 => c
  | k + 1 => rbit x (rbits x c k) k
def rsteps (c : Int) (bs : List Int) : Int := bs.foldl (fun c x => rbits x c 8) c
def rsum (bs : List Int) : Int := crcN (rsteps (crcN 0) bs)
theorem rupdate8 (a : Option Addr) (n cap : Nat) (bs : List Int) (w : World) (h : Rd8 w a n cap bs) (hn : n <= 1000000) :
    Calls prog 297 #[.int .u32 0, .slice a n cap] w fun e w' => e = .returned (.int .u32 (rsum bs)) /\ w' = w := by
  have H := hid h
  have hl := h.len
  clear h
  go_enter Tryz.func297, Tryz.ntmps297
  go_wp2_with fail
  go_loopw [0, 5] (fun c i wr => ∃ k : Nat, k <= n /\ i = .int .i64 k /\ c = .int .u32 (rsteps (crcN 0) (bs.take k)) /\ wr = w) (fun _ i _ => n - (intOf i).toNat)
  case atStart => exact ⟨0, Nat.zero_le _, rfl, rfl, rfl⟩
  case round =>
    obtain ⟨k, hk, rfl, rfl, hw⟩ := hrel
    subst hw
    by_cases hlt : k < n
    · obtain ⟨g, off, rfl, hg, hc⟩ := H.out.el k hlt
      obtain ⟨x, hx⟩ : ∃ x, bs[k]? = some x := ⟨_, List.getElem?_eq_getElem (by omega)⟩
      obtain ⟨x0, x1⟩ := H.out.byt x (List.mem_of_getElem? hx)
      rw [hx] at hc
      simp only [Option.getD_some] at hc
      have HX := hid (show rsteps (crcN 0) (bs.take (k + 1)) = rbits x (rsteps (crcN 0) (bs.take k)) 8 by rw [List.take_add_one, hx]; simp [rsteps])
      obtain ⟨c0, hc0⟩ : ∃ q, rsteps (crcN 0) (bs.take k) = q := ⟨_, rfl⟩
      rw [hc0] at HX ⊢
      clear hx hc0
      go_wp2_with fail
      go_loopw [0, 6] (fun c i wr2 => ∃ j : Nat, j <= 8 /\ i = .int .u64 j /\ c = .int .u32 (rbits x c0 j) /\ wr2 = wr) (fun _ i _ => 8 - (intOf i).toNat)
      case atStart => exact ⟨0, Nat.zero_le _, rfl, rfl, rfl⟩
      case round =>
        obtain ⟨j, hj, rfl, rfl, hw2⟩ := hrel
        subst hw2
        by_cases hj8 : j < 8
        · obtain ⟨c1, hc1⟩ : ∃ q, rbits x c0 j = q := ⟨_, rfl⟩
          have HC := hid (show rbits x c0 (j + 1) = rbit x c1 j by rw [<- hc1]; rfl)
          rw [hc1]
          clear hc1
          by_cases hb : bits .and .u32 (bits .xor .u32 c1 (x / 2 ^ j % 4294967296)) 1 = 1
          · have HB := hid (show rbit x c1 j = bits .xor .u32 (c1 / 2) 2197175160 by unfold rbit; rw [if_pos hb])
            have hb1 : (bits .and .u32 (bits .xor .u32 c1 (x / 2 ^ j % 4294967296)) 1 == 1) = true := by rw [hb]; rfl
            clear hb
            go_wp2_with fail
            go_roundw
            case rel => exact ⟨j + 1, by omega, by go_num, by rw [HC.out, HB.out], trivial⟩
            case measure => simp [intOf]; omega
          · have HB := hid (show rbit x c1 j = c1 / 2 by unfold rbit; rw [if_neg hb])
            have hb1 : (bits .and .u32 (bits .xor .u32 c1 (x / 2 ^ j % 4294967296)) 1 == 1) = false := beq_eq_false_iff_ne.2 hb
            clear hb
            go_wp2_with fail
            go_roundw
            case rel => exact ⟨j + 1, by omega, by go_num, by rw [HC.out, HB.out], trivial⟩
            case measure => simp [intOf]; omega
        · obtain rfl : j = 8 := by omega
          go_wp2_with fail
          go_roundw
          case rel => exact ⟨k + 1, by omega, by go_num, by rw [HX.out], trivial⟩
          case measure => simp [intOf]; omega
    · obtain rfl : k = n := by omega
      have HE := hid (show bs.take k = bs from List.take_of_length_le (by omega))
      rw [HE.out]
      have HR := hid (show rsum bs = crcN (rsteps (crcN 0) bs) from rfl)
      go_wp2_with fail
      go_ret
      exact ⟨by rw [HR.out]; rfl, rfl⟩
theorem rsum8 (a : Option Addr) (n cap : Nat) (bs : List Int) (w : World) (h : Rd8 w a n cap bs) (hn : n <= 1000000) :
    Calls prog 242 #[.slice a n cap] w fun e w' => e = .returned (.int .u32 (rsum bs)) /\ w' = w := by
  have U := hid (rupdate8 a n cap bs w h hn)
  clear h
  go_enter Tryz.func242, Tryz.ntmps242
  go_wp2_with fail
  with_reducible refine U.out.mono ?_
  rintro e w1 ⟨rfl, rfl⟩
  go_wp2_with fail
  go_ret
  exact ⟨rfl, rfl⟩
theorem rsum_rng (bs : List Int) : 0 <= rsum bs /\ rsum bs < 4294967296 := by
  unfold rsum crcN
  exact ⟨bits_lo_u32 .xor _ _, Int.lt_of_le_of_lt (bits_hi_u32 .xor _ _) (by decide)⟩
def rF : SumF := fun a b => rsum (a ++ b)
theorem rput8w (a : Option Addr) (n cap : Nat) (bs : List Int) (x : Int) (wd : Nat) (w : World) (h : Rd8 w a n cap bs) (hn : n <= 1000000) (x0 : 0 <= x) (x1 : x < 18446744073709551616) (w1 : 1 <= wd) (w8 : wd <= 8) :
    Calls prog 171 #[.slice a n cap, .int .u64 x, .int .i64 (wd : Int)] w (Ret8 w (bs ++ beN x wd)) := by
  have H := hid h
  have hl := h.len
  obtain ⟨i0, hi, hz0, hz1, hz2⟩ := info_parts u8info
  have I1 := hid hi; have I2 := hid hz0; have I3 := hid hz1; have I4 := hid hz2
  have hg1 : (1 : Int) <= (wd : Int) := by omega
  have hg2 : (wd : Int) <= 8 := by omega
  clear h hi hz0 hz1 hz2
  go_enter Tryz.func171, Tryz.ntmps171
  go_wp2_with (at_builtin; refine Stop.out ?_)
  refine Stop.of (wpList_app rfl _ _ 33 rfl w.heap.size 5 i0 (.int .u8 0) 1 1 Tryz.underlying33 I1.out I2.out I3.out I4.out rfl (by decide) (.slice none 0 0) 0 [] rfl (World.ownsRow_nil _ _ _ _) (.slice a n cap) n (u8s bs) rfl H.out.src (ints_one .u8 bs) (by unfold maxLen; omega) (by omega) (Nat.le_refl _) ?_)
  intro v1 w1' ho1 hg1'
  have O1 := hid (show w1'.ownsRow w.heap.size 5 1 v1 bs.length (u8s bs) by
    rw [hl]
    simpa using ho1)
  have B1 := hid (show Below w.heap.size w w1' from ⟨hg1'.os, hg1'.tape, hg1'.output, hg1'.size, fun k hk => hg1'.block k hk (fun e => by cases e)⟩)
  clear ho1 hg1'
  go_wp2_with fail
  go_loopw [7, 8] (fun v j wr => ∃ k : Nat, k <= wd /\ j = .int .i64 ((wd : Int) - 1 - (k : Int)) /\ wr.ownsRow w.heap.size 5 1 v (bs.length + k) (u8s bs ++ u8s ((beN x wd).take k)) /\ Below w.heap.size w wr) (fun _ j _ => (intOf j + 1).toNat)
  case atStart => exact ⟨0, Nat.zero_le _, by go_num, by simpa using O1.out, B1.out⟩
  case round =>
    obtain ⟨k, hk, rfl, ho, hb⟩ := hrel
    have O2 := hid ho
    have B2 := hid hb
    clear ho hb
    by_cases hlt : k < wd
    · have hj : 0 <= (wd : Int) - 1 - (k : Int) := by omega
      have hj2 : (wd : Int) - 1 - (k : Int) <= 7 := by omega
      go_wp2_with (at_builtin; refine Stop.out ?_)
      have hp : x / 2 ^ (8 * (wd - 1 - k)) % 256 = x / 256 ^ (wd - 1 - k) % 256 := by rw [Int.pow_mul]; rfl
      have ht := beN_take x wd k hlt
      rw [hp]
      refine Stop.of (wpList_app rfl _ _ 33 rfl w.heap.size 5 i0 (.int .u8 0) 1 1 Tryz.underlying33 I1.out I2.out I3.out I4.out rfl (by decide) _ (bs.length + k) (u8s bs ++ u8s ((beN x wd).take k)) rfl (O2.out.alloc _) _ 1 [.int .u8 (x / 256 ^ (wd - 1 - k) % 256)] rfl
        (src_lit (e := 5) (g := wr.heap.size) (m := 1) (c := 1) _ (0, 0) (by show (wr.heap.push _)[wr.heap.size]? = _; simp) rfl) (ints_one .u8 [_]) (by have := H.out.len; unfold maxLen; omega) (by have := H.out.len; omega) (by have := B2.out.size; simp; omega) ?_)
      intro v' w1 ho hg
      have B3 := hid (bel_app B2.out O2.out hg)
      have O3 := hid (show w1.ownsRow w.heap.size 5 1 v' (bs.length + (k + 1)) (u8s bs ++ u8s ((beN x wd).take (k + 1))) by
        rw [ht, u8s, u8s, List.map_append, <- List.append_assoc]; exact ho)
      clear hp ht ho hg
      go_wp2_with fail
      go_roundw
      case rel => exact ⟨k + 1, by omega, by go_num, O3.out, B3.out⟩
      case measure => simp [intOf]; omega
    · obtain rfl : k = wd := by omega
      have hj : (k : Int) - 1 - (k : Int) = -1 := by omega
      go_wp2_with fail
      go_ret
      have hl := O2.out
      rw [List.take_of_length_le (by rw [bL]; exact Nat.le_refl _)] at hl
      exact ⟨_, rfl, .app hl (bL _ _) H.out.byt (beN_byte _ _), B2.out⟩
theorem rput8z (a : Option Addr) (n cap : Nat) (bs : List Int) (x z : Int) (wd m : Nat) (w : World) (h : Rd8 w a n cap bs) (hn : n <= 1000000) (x0 : 0 <= x) (x1 : x < 18446744073709551616) (w1 : 1 <= wd) (w8 : wd <= 8) (hz : z = (wd : Int)) (hm : m = n + wd) :
    Calls prog 171 #[.slice a n cap, .int .u64 x, .int .i64 z] w fun e w' => ∃ a' c', e = .returned (.slice a' m c') /\ Own8 w.heap.size w' (.slice a' m c') (bs ++ beN x wd) /\ Rd8 w' a' m c' (bs ++ beN x wd) /\ Below w.heap.size w w' := by
  subst hz hm
  refine (rput8w a n cap bs x wd w h hn x0 x1 w1 w8).mono ?_
  rintro e w' ⟨v, rfl, ho, hb⟩
  obtain ⟨a', c', rfl, hr⟩ := ho.rd
  have hl : (bs ++ beN x wd).length = n + wd := by rw [List.length_append, bL, h.len]
  rw [hl] at hr ho ⊢
  exact ⟨a', c', rfl, ho, hr, hb⟩
theorem frameB_grow (kind : Int) (p : List Int) (k : Nat) : (kind :: (p ++ List.replicate k 0)) ++ [0] = kind :: (p ++ List.replicate (k + 1) 0) := by
  rw [List.replicate_succ', List.cons_append, List.append_assoc]
theorem own_new1 (w : World) (e : TypeId) (x : Value) : (w.alloc (.cells #[x] e)).ownsRow w.heap.size e 1 (.slice (some ⟨w.heap.size, 0, none⟩) 1 1) 1 [x] :=
  ⟨rfl, .inr ⟨w.heap.size, 1, #[x], rfl, Nat.le_refl _, by show (w.heap.push _)[w.heap.size]? = _; simp, Nat.le_refl _, by unfold maxLen; omega, rfl, rfl⟩⟩
def vlen : Value -> Nat
  | .slice _ m _ => m
  | _ => 0
theorem rfenc8 (kind salt sector : Int) (a : Option Addr) (n cap : Nat) (p : List Int) (w : World) (h : Rd8 w a n cap p) (hn : n <= 59) (k0 : 0 <= kind) (k1 : kind < 256) (s0 : 0 <= salt) (s1 : salt < 9223372036854775808) (t0 : 0 <= sector) (t1 : sector < 9223372036854775808) :
    Calls prog 170 #[.int .i64 kind, .int .i64 salt, .int .i64 sector, .slice a n cap] w (Ret8 w (frameE rF kind salt sector p)) := by
  have H := hid h
  have hl := h.len
  obtain ⟨i0, hi, hz0, hz1, hz2⟩ := info_parts u8info
  have I1 := hid hi; have I2 := hid hz0; have I3 := hid hz1; have I4 := hid hz2
  have hk9 : kind % 256 = kind := by omega
  have HL := hid hl
  clear h hi hz0 hz1 hz2 hl
  go_enter Tryz.func170, Tryz.ntmps170
  go_wp2_with (at_builtin; refine Stop.out ?_)
  refine Stop.of (wpList_app rfl _ _ 33 rfl w.heap.size 5 i0 (.int .u8 0) 1 1 Tryz.underlying33 I1.out I2.out I3.out I4.out rfl (by decide) (.slice (some ⟨w.heap.size, 0, none⟩) 1 1) 1 [.int .u8 kind] rfl (own_new1 w _ _) (.slice a n cap) n (u8s p) rfl (H.out.below ((Below.refl w.heap.size w).alloc (Nat.le_refl _) _) (Nat.le_refl _)).src (ints_one .u8 p) (by unfold maxLen; omega) (by omega) (by simp) ?_)
  intro v1 w1 ho1 hg1
  have O1 := hid (show w1.ownsRow w.heap.size 5 1 v1 (1 + n) (u8s (kind :: (p ++ List.replicate 0 0))) by
    rw [List.replicate_zero, List.append_nil]; exact ho1)
  have B1 := hid (show Below w.heap.size w w1 from bel_grown hg1)
  have hs9 : salt % 18446744073709551616 = salt := by omega
  have ht9 : sector % 18446744073709551616 = sector := by omega
  clear ho1 hg1 hk9
  go_wp2_with fail
  go_loopw [9] (fun v wr => ∃ k : Nat, k <= 59 - n /\ wr.ownsRow w.heap.size 5 1 v (1 + n + k) (u8s (kind :: (p ++ List.replicate k 0))) /\ Below w.heap.size w wr) (fun v _ => 60 - vlen v)
  case atStart => exact ⟨0, Nat.zero_le _, O1.out, B1.out⟩
  case round =>
    obtain ⟨k, hk, ho, hb⟩ := hrel
    obtain ⟨a2, c2, rfl⟩ := ownsRow_slice ho
    have O2 := hid ho
    have B2 := hid hb
    clear ho hb
    by_cases hlt : k < 59 - n
    · have hq : ((1 + n + k : Nat) : Int) < 60 := by omega
      obtain ⟨m2, hm2⟩ : ∃ q, 1 + n + k = q := ⟨_, rfl⟩
      rw [hm2] at hq O2 ⊢
      have HM := hid hm2
      clear hm2
      go_wp2_with (at_builtin; refine Stop.out ?_)
      refine Stop.of (wpList_app rfl _ _ 33 rfl w.heap.size 5 i0 (.int .u8 0) 1 1 Tryz.underlying33 I1.out I2.out I3.out I4.out rfl (by decide) (.slice a2 m2 c2) m2 (u8s (kind :: (p ++ List.replicate k 0))) rfl (O2.out.alloc _) _ 1 [.int .u8 0] rfl
        (src_lit (e := 5) (g := wr.heap.size) (m := 1) (c := 1) _ (0, 0) (by show (wr.heap.push _)[wr.heap.size]? = _; simp) rfl) (ints_one .u8 [_]) (by unfold maxLen; omega) (by omega) (by have := B2.out.size; simp; omega) ?_)
      intro v3 w3 ho hg
      have B3 := hid (bel_app B2.out O2.out hg)
      have O3 := hid (show w3.ownsRow w.heap.size 5 1 v3 (1 + n + (k + 1)) (u8s (kind :: (p ++ List.replicate (k + 1) 0))) by
        rw [<- frameB_grow, u8s, List.map_append, show 1 + n + (k + 1) = m2 + 1 from by have := HM.out; omega]; exact ho)
      obtain ⟨a3, c3, rfl⟩ := ownsRow_slice O3.out
      clear ho hg
      go_wp2_with fail
      go_roundw
      case rel => exact ⟨k + 1, by omega, O3.out, B3.out⟩
      case measure => have := HM.out; simp [vlen]; omega
    · obtain rfl : k = 59 - n := by omega
      have e60 : 1 + n + (59 - n) = 60 := by omega
      rw [e60] at O2 ⊢
      have FB := hid (show kind :: (p ++ List.replicate (59 - n) 0) = frameB kind p by unfold frameB; rw [HL.out])
      have hfl := frameB_length kind p (by have := HL.out; omega)
      rw [FB.out] at O2
      have P1 := hid (rput8z none 0 0 [] salt 8 8 8 wr (Rd8.nilv _) (by omega) s0 (by omega) (by omega) (by omega) rfl rfl)
      have HFL := hid hfl
      clear e60 hfl
      go_wp2_with fail
      with_reducible refine P1.out.mono ?_
      rintro e w4 ⟨a4, c4, rfl, ho4, hr4, hb4⟩
      have B4 := hid (tB B2.out hb4)
      have P2 := hid (rput8z a4 8 c4 _ sector 4 4 12 w4 hr4 (by omega) t0 (by omega) (by omega) (by omega) rfl rfl)
      have B24 := hid hb4
      clear ho4 hr4 hb4 P1
      go_wp2_with fail
      with_reducible refine P2.out.mono ?_
      rintro e w5 ⟨a5, c5, rfl, ho5, hr5, hb5⟩
      have B5 := hid (tB B4.out hb5)
      have O5 := hid (show w5.ownsRow w4.heap.size 5 1 (.slice a5 12 c5) 12 (u8s (beN salt 8 ++ beN sector 4)) by
        have h1 := ho5.own
        rw [List.nil_append] at h1
        have h2 : (beN salt 8 ++ beN sector 4).length = 12 := by simp [bL]
        rw [h2] at h1
        exact h1)
      have S45 := hid hb5.size
      have O25 := hid (show w5.ownsRow w.heap.size 5 1 (.slice a2 60 c2) 60 (u8s (frameB kind p)) from own_same O2.out (fun g hg => by
        exact (tB B24.out hb5).block g (O2.out.lt g hg).2))
      clear ho5 hr5 hb5 P2
      have R25 := hid (show Rd8 w5 a2 60 c2 (frameB kind p) from by
        have h1 : Own8 w.heap.size w5 (.slice a2 60 c2) (frameB kind p) := ⟨by rw [HFL.out]; exact O25.out, frameB_byte k0 k1 H.out.byt⟩
        obtain ⟨_, _, e, hr⟩ := h1.rd
        rw [HFL.out] at e hr
        cases e
        exact hr)
      go_wp2_with (at_builtin; refine Stop.out ?_)
      refine Stop.of (wpList_app rfl _ _ 33 rfl w4.heap.size 5 i0 (.int .u8 0) 1 1 Tryz.underlying33 I1.out I2.out I3.out I4.out rfl (by decide) (.slice a5 12 c5) 12 (u8s (beN salt 8 ++ beN sector 4)) rfl O5.out (.slice a2 60 c2) 60 (u8s (frameB kind p)) rfl R25.out.src (ints_one .u8 _) (by unfold maxLen; omega) (by omega) S45.out ?_)
      intro v6 w6 ho6 hg6
      have s24 := B24.out.size
      have B56 := hid (show Below w4.heap.size w5 w6 from ⟨hg6.os, hg6.tape, hg6.output, hg6.size, fun k hk => hg6.block k (by have := S45.out; omega) (fun e => by have := (O5.out.lt k e.symm).1; omega)⟩)
      have B6 := hid (B5.out.trans (B56.out.mono (show w.heap.size <= w4.heap.size from B4.out.size)))
      have R6 := hid (show Rd8 w6 a2 60 c2 (frameB kind p) from R25.out.fr (S := fun j => w4.heap.size <= j) ⟨hg6.os, hg6.tape, hg6.output, hg6.size, fun k hk hn => hg6.block k hk (fun e => by have := (O5.out.lt k e.symm).1; omega)⟩ (fun ad e hj => by
        have h1 := (O2.out.lt ad.block (by rw [e]; rfl)).2
        omega))
      have hlen : ((beN salt 8 ++ beN sector 4) ++ frameB kind p).length = 72 := by rw [List.length_append, HFL.out]; simp [bL]
      obtain ⟨a6, c6, rfl, R7⟩ : ∃ a6 c6, v6 = .slice a6 72 c6 /\ Rd8 w6 a6 72 c6 ((beN salt 8 ++ beN sector 4) ++ frameB kind p) := by
        have h1 : Own8 w4.heap.size w6 v6 ((beN salt 8 ++ beN sector 4) ++ frameB kind p) := ⟨by rw [hlen, u8s, List.map_append]; exact ho6, ((beN_byte _ _).app (beN_byte _ _)).app (frameB_byte k0 k1 H.out.byt)⟩
        obtain ⟨a', c', e, hr⟩ := h1.rd
        rw [hlen] at e hr
        exact ⟨a', c', e, hr⟩
      have SU := hid (rsum8 a6 72 c6 _ w6 R7 (by omega))
      have hsr := rsum_rng ((beN salt 8 ++ beN sector 4) ++ frameB kind p)
      have FE := hid (show frameB kind p ++ beN (rsum ((beN salt 8 ++ beN sector 4) ++ frameB kind p)) 4 = frameE rF kind salt sector p from rfl)
      obtain ⟨sm, hsm⟩ : ∃ q, rsum ((beN salt 8 ++ beN sector 4) ++ frameB kind p) = q := ⟨_, rfl⟩
      rw [hsm] at SU hsr FE
      have hw9 : sm % 18446744073709551616 = sm := by omega
      have P3 := hid (rput8z a2 60 c2 _ sm 4 4 64 w6 R6.out (by omega) hsr.1 (by omega) (by omega) (by omega) rfl rfl)
      rw [FE.out] at P3
      clear ho6 hg6 R7 hsm hlen s24
      go_wp2_with fail
      with_reducible refine SU.out.mono ?_
      rintro e w7 ⟨rfl, rfl⟩
      go_wp2_with fail
      with_reducible refine P3.out.mono ?_
      rintro e w8 ⟨a8, c8, rfl, ho8, -, hb8⟩
      have FIN := hid (And.intro (ho8.mono (show w.heap.size <= _ from B6.out.size)) (tB B6.out hb8))
      clear ho8 hb8
      go_wp2_with fail
      go_ret
      exact ⟨_, rfl, FIN.out.1, FIN.out.2⟩
theorem eq_at (xs ys : List Int) (h : xs.length = ys.length) (k : Nat) (x y : Int) (hx : xs[k]? = some x) (hy : ys[k]? = some y) (hxy : x ≠ y) : decide (xs = ys) = false := by
  rw [decide_eq_false_iff_not]
  intro e
  rw [e, hy] at hx
  exact hxy (Option.some.inj hx).symm
theorem req8 (a b : Option Addr) (n c m d : Nat) (xs ys : List Int) (w : World) (h1 : Rd8 w a n c xs) (h2 : Rd8 w b m d ys) (hn : n <= 1000000) (hm : m <= 1000000) :
    Calls prog 25 #[.slice a n c, .slice b m d] w fun e w' => e = .returned (.bool (decide (xs = ys))) /\ Below w.heap.size w w' := by
  have H1 := hid h1
  have H2 := hid h2
  have l1 := h1.len
  have l2 := h2.len
  clear h1 h2
  go_enter Tryz.func25, Tryz.ntmps25
  by_cases hnm : n = m
  · subst hnm
    go_wp2_with fail
    go_loopw [5, 13] (fun _ i wr => ∃ k : Nat, k <= n /\ i = .int .i64 k /\ xs.take k = ys.take k /\ Below w.heap.size w wr) (fun _ i _ => n - (intOf i).toNat)
    case atStart => exact ⟨0, Nat.zero_le _, rfl, rfl, Below.refl _ _⟩
    case round =>
      obtain ⟨k, hk, rfl, ht, hb⟩ := hrel
      have HT := hid ht
      have HB := hid hb
      clear ht
      by_cases hlt : k < n
      · have hkl : (k : Int) < (n : Int) := by omega
        have g1 := (H1.out.below hb (Nat.le_refl _)).below (Below.refl _ _).drew (Nat.le_refl _)
        have g2 := (H2.out.below hb (Nat.le_refl _)).below (Below.refl _ _).drew (Nat.le_refl _)
        obtain ⟨g, off, rfl, hg, hc⟩ := g1.el k hlt
        obtain ⟨g', off', rfl, hg', hc'⟩ := g2.el k hlt
        obtain ⟨x, hx⟩ : ∃ x, xs[k]? = some x := ⟨_, List.getElem?_eq_getElem (by omega)⟩
        obtain ⟨y, hy⟩ : ∃ x, ys[k]? = some x := ⟨_, List.getElem?_eq_getElem (by omega)⟩
        rw [hx] at hc
        rw [hy] at hc'
        simp only [Option.getD_some] at hc hc'
        have HX := hid hx
        have HY := hid hy
        have L1 := hid l1
        have L2 := hid l2
        clear hx hy g1 g2 hb
        go_wp2_with fail
        go_region
        by_cases hxy : x = y
        · have hd : decide (x = y) = true := decide_eq_true hxy
          have hb1 : (x == y) = true := by rw [hxy]; simp
          have hxy2 := hid hxy
          go_wp2_with fail
          go_roundw
          case rel =>
            refine ⟨k + 1, by omega, by go_num, ?_, HB.out.trans (Below.refl _ _).drew⟩
            rw [List.take_add_one, List.take_add_one, HT.out, HX.out, HY.out, hxy2.out]
          case measure => simp [intOf]; omega
        · have hb1 : (x == y) = false := beq_eq_false_iff_ne.2 hxy
          go_wp2_with fail
          go_ret
          exact ⟨by rw [eq_at xs ys (by rw [L1.out, L2.out]) k x y HX.out HY.out hxy]; rfl, HB.out.trans (Below.refl _ _).drew⟩
      · obtain rfl : k = n := by omega
        have hq : decide (xs = ys) = true := by
          rw [decide_eq_true_eq]
          have h := HT.out
          rw [List.take_of_length_le (by omega), List.take_of_length_le (by omega)] at h
          exact h
        have HQ := hid hq
        clear hb hq
        go_wp2_with fail
        go_ret
        exact ⟨by rw [HQ.out]; rfl, HB.out⟩
  · have hne : ¬ (n : Int) = (m : Int) := by omega
    have hq := hid (show decide (xs = ys) = false from by
      rw [decide_eq_false_iff_not]
      intro e
      rw [e] at l1
      omega)
    go_wp2_with fail
    go_ret
    exact ⟨by rw [hq.out]; rfl, Below.refl _ _⟩
theorem beV_lt (bs : List Int) (hb : Byte8 bs) : 0 <= beV bs /\ beV bs < 256 ^ bs.length := by
  have key : ∀ (r : List Int), Byte8 r.reverse -> 0 <= beV r.reverse /\ beV r.reverse < 256 ^ r.length := by
    intro r
    induction r with
    | nil => intro _; simp [beV]
    | cons x r ih =>
      intro h
      rw [List.reverse_cons] at h ⊢
      rw [beV_snoc]
      have h1 := ih (fun z hz => h z (by simp at hz ⊢; exact .inl hz))
      have h2 := h x (by simp)
      rw [List.length_cons, Int.pow_succ]
      omega
  have := key bs.reverse (by rw [List.reverse_reverse]; exact hb)
  rw [List.reverse_reverse, List.length_reverse] at this
  exact this
theorem rnum8 (a : Option Addr) (n cap : Nat) (bs : List Int) (w : World) (h : Rd8 w a n cap bs) (hn : n <= 7) :
    Calls prog 92 #[.slice a n cap] w fun e w' => e = .returned (.int .u64 (beV bs)) /\ w' = w := by
  have H := hid h
  have hl := h.len
  clear h
  go_enter Tryz.func92, Tryz.ntmps92
  go_wp2_with fail
  go_loopw [3, 4] (fun c i wr => ∃ k : Nat, k <= n /\ i = .int .i64 k /\ c = .int .u64 (beV (bs.take k)) /\ wr = w) (fun _ i _ => n - (intOf i).toNat)
  case atStart => exact ⟨0, Nat.zero_le _, rfl, rfl, rfl⟩
  case round =>
    obtain ⟨k, hk, rfl, rfl, hw⟩ := hrel
    subst hw
    by_cases hlt : k < n
    · obtain ⟨g, off, rfl, hg, hc⟩ := H.out.el k hlt
      obtain ⟨x, hx⟩ : ∃ x, bs[k]? = some x := ⟨_, List.getElem?_eq_getElem (by omega)⟩
      obtain ⟨x0, x1⟩ := H.out.byt x (List.mem_of_getElem? hx)
      rw [hx] at hc
      simp only [Option.getD_some] at hc
      have HX := hid (show beV (bs.take (k + 1)) = beV (bs.take k) * 256 + x by rw [List.take_add_one, hx]; exact beV_snoc _ _)
      have hlt2 := (beV_lt (bs.take k) (H.out.byt.take k))
      have hlen : (bs.take k).length = k := by rw [List.length_take]; omega
      rw [hlen] at hlt2
      have hk6 : (256 : Int) ^ k <= 256 ^ 6 := by exact_mod_cast Nat.pow_le_pow_right (by omega) (show k <= 6 by omega)
      obtain ⟨c0, hc0⟩ : ∃ q, beV (bs.take k) = q := ⟨_, rfl⟩
      rw [hc0] at HX hlt2 ⊢
      have hc1 : 0 <= c0 /\ c0 < 281474976710656 := ⟨hlt2.1, by
        have : (256 : Int) ^ 6 = 281474976710656 := by decide
        omega⟩
      clear hx hc0 hlt2 hk6 hlen
      have hx9 : x % 18446744073709551616 = x := by omega
      go_wp2_with fail
      go_roundw
      case rel => exact ⟨k + 1, by omega, by go_num, by rw [HX.out], trivial⟩
      case measure => simp [intOf]; omega
    · obtain rfl : k = n := by omega
      have hq := hid (show bs.take k = bs by rw [List.take_of_length_le (by omega)])
      go_wp2_with fail
      go_ret
      exact ⟨by rw [hq.out]; rfl, rfl⟩
theorem rmay8 (kind salt sector : Int) (w : World) (k0 : 1 <= kind) (k1 : kind <= 4) (s0 : 0 <= salt) (t0 : 0 <= sector) (t1 : sector < 1048576) :
    Calls prog 169 #[.int .i64 kind, .int .i64 salt, .int .i64 sector] w fun e w' => e = .returned (.bool true) /\ w' = w := by
  go_enter Tryz.func169, Tryz.ntmps169
  go_wp2_with fail
  go_ret
  exact ⟨rfl, rfl⟩
def RetF (w : World) (o : Option (List Int)) (e : Ending) (w' : World) : Prop := (match o with
        | none => e = .returned (.tuple #[.slice none 0 0, .bool false])
        | some p => ∃ v, e = .returned (.tuple #[v, .bool true]) /\ Own8 w.heap.size w' v p) /\ Below w.heap.size w w'
theorem rfdec8 (kind salt sector : Int) (a : Option Addr) (c : Nat) (b : List Int) (w : World) (h : Rd8 w a 64 c b) (k0 : 1 <= kind) (k1 : kind <= 4) (s0 : 0 <= salt) (s1 : salt < 9223372036854775808) (t0 : 0 <= sector) (t1 : sector < 1048576) :
    Calls prog 91 #[.int .i64 kind, .int .i64 salt, .int .i64 sector, .slice a 64 c] w (RetF w (frameD rF kind salt sector b)) := by
  obtain ⟨m, hm⟩ : ∃ m : Nat, m = 59 := ⟨_, rfl⟩
  obtain ⟨p, hp⟩ : ∃ p, (b.drop 1).take 59 = p := ⟨_, rfl⟩
  obtain ⟨F, hF⟩ : ∃ F, frameE rF kind salt sector p = F := ⟨_, rfl⟩
  have HP := hid (show Rd8 w (lowA a c 1) m (c - 1) p from by rw [hm, <- hp]; exact h.mid 1 59 (by omega))
  obtain ⟨i0, hi, hz0, hz1, hz2⟩ := info_parts u8info
  have I1 := hid hi; have I2 := hid hz0; have I3 := hid hz1; have I4 := hid hz2
  have hc := h.cap_le
  have hsl := fun W => slice_mid' a 64 c 1 60 1 60 m (c - 1) rfl rfl (by omega) (by omega) hm rfl W
  have H := hid h
  have hlen := h.len
  have hpos : possP kind salt sector := ⟨k0, k1, s0, t0, t1⟩
  have HQ1 := hid (show b = F -> frameD rF kind salt sector b = some p from fun e => by
    unfold frameD
    rw [if_pos ⟨hlen, hpos, by rw [hp, hF]; exact e.symm⟩, hp])
  have HQ2 := hid (show ¬ b = F -> frameD rF kind salt sector b = none from fun e => by
    unfold frameD
    rw [if_neg (fun h => e (by have h2 := h.2.2; rw [hp, hF] at h2; exact h2.symm))])
  have MA := hid (fun W => rmay8 kind salt sector W k0 k1 s0 t0 t1)
  have HF9 := hid (show F.length = 64 by rw [<- hF]; exact frameE_length _ _ _ _ _ (by have := HP.out.len; omega))
  have EN := rfenc8 kind salt sector _ _ _ _ w HP.out (by omega) (by omega) (by omega) s0 s1 t0 (by omega)
  rw [hF] at EN
  have EN := hid EN
  have HM := hid hm
  clear h hi hz0 hz1 hz2 hm hp hF hpos hlen
  obtain ⟨fd, hfd⟩ : ∃ fd, frameD rF kind salt sector b = fd := ⟨_, rfl⟩
  rw [hfd] at HQ1 HQ2 ⊢
  clear hfd
  go_enter Tryz.func91, Tryz.ntmps91
  go_wp2_with fail
  with_reducible refine (MA.out _).mono ?_
  rintro e w1 ⟨rfl, rfl⟩
  go_wp2_with fail
  with_reducible refine EN.out.mono ?_
  rintro e w2 ⟨v2, rfl, ho2, hb2⟩
  obtain ⟨a2, c2, rfl, hr2⟩ := ho2.rd
  rw [HF9.out] at hr2 ⊢
  have B2 := hid hb2
  have EQ := hid (req8 a a2 64 c 64 c2 _ _ w2 (H.out.below hb2 (Nat.le_refl _)) hr2 (by omega) (by omega))
  clear ho2 hb2 hr2
  go_wp2_with fail
  with_reducible refine EQ.out.mono ?_
  rintro e w3 ⟨rfl, hb3⟩
  have B3 := hid (tB B2.out hb3)
  clear hb3
  by_cases hq : b = F
  · have hd : decide (b = F) = true := decide_eq_true hq
    have HQ := hid (HQ1.out hq)
    clear hq
    have ST := hid ((HP.out.below B3.out (Nat.le_refl _)).src)
    have s3 := hid B3.out.size
    go_wp2_with (at_builtin; refine Stop.out ?_)
    refine Stop.of (wpList_app rfl _ _ 33 rfl w3.heap.size 5 i0 (.int .u8 0) 1 1 Tryz.underlying33 I1.out I2.out I3.out I4.out rfl (by decide) _ 0 [] rfl (own_nil _ _ _ _) _ m (u8s p) rfl ST.out (ints_one .u8 _) (by unfold maxLen; have := HM.out; omega) (by have := HM.out; omega) (Nat.le_refl _) ?_)
    intro v4 w4 hown4 hg4
    simp only [Nat.zero_add, List.nil_append] at hown4
    have B4 := hid (B3.out.grown hg4 B3.out.size (fun j hj => by cases hj))
    have O4 := hid (show Own8 w1.heap.size w4 v4 p from ⟨by
      rw [HP.out.len]
      obtain ⟨h1, h2⟩ := hown4
      refine ⟨h1, h2.imp id ?_⟩
      rintro ⟨g, cc, cs, e1, e2, e3⟩
      exact ⟨g, cc, cs, e1, Nat.le_trans s3.out e2, e3⟩, HP.out.byt⟩)
    clear hown4 hg4
    go_wp2_with fail
    go_ret2
    rw [HQ.out]
    exact ⟨⟨_, rfl, O4.out⟩, B4.out⟩
  · have hd : decide (b = F) = false := decide_eq_false hq
    have HQ := hid (HQ2.out hq)
    clear hq
    go_wp2_with fail
    go_ret2
    rw [HQ.out]
    exact ⟨rfl, B3.out⟩
theorem logE_max {rs : Int} (h : pow2B rs = true \/ rs = 0) : max (logD rs) 0 = logE rs /\ logE rs % 256 = logE rs := by
  have h1 := logE_rng h
  rcases h with h | rfl
  · have h2 := (pow2_log rs).1 h
    have h3 := pow2_rng h
    have e : logE rs = logD rs := by unfold logE; rw [if_neg (by omega)]
    omega
  · decide
theorem rsput8 (l : Lay) (a : Option Addr) (n m cap : Nat) (bs : List Int) (w : World) (h : Rd8 w a n cap bs) (hn : n <= 1000) (hl : formB l = true \/ l = lay0) (hm : m = n + 7) :
    Calls prog 175 #[.slice a n cap, .agg #[.int .i64 l.id, .int .i64 l.ver, .int .i64 l.rs, .int .i64 l.rg]] w fun e w' => ∃ a' c', e = .returned (.slice a' m c') /\ Own8 w.heap.size w' (.slice a' m c') (bs ++ layE l) /\ Rd8 w' a' m c' (bs ++ layE l) /\ Below w.heap.size w w' := by
  obtain ⟨i0, hi, hz0, hz1, hz2⟩ := info_parts u8info
  have I1 := hid hi; have I2 := hid hz0; have I3 := hid hz1; have I4 := hid hz2
  have hb := layE_byte hl
  have hrs : pow2B l.rs = true \/ l.rs = 0 := by
    rcases hl with h | h
    · exact .inl (formB_pow h).2.2.2.1
    · right; rw [h]; rfl
  have h1d : 0 <= l.id /\ l.id <= 4294967295 := by
    rcases hl with h | h
    · have := formB_pow h; omega
    · rw [h]; decide
  obtain ⟨hmx, hlg⟩ := logE_max hrs
  obtain ⟨w0, hw0⟩ : ∃ w0, w.alloc (.cells #[.int .i64 l.id, .int .i64 l.ver, .int .i64 l.rs, .int .i64 l.rg] 26) = w0 := ⟨_, rfl⟩
  have B0 := hid (show Below w.heap.size w w0 by rw [<- hw0]; exact (Below.refl _ _).alloc (Nat.le_refl _) _)
  have HX := hid (show w0.heap[w.heap.size]? = some (.cells #[.int .i64 l.id, .int .i64 l.ver, .int .i64 l.rs, .int .i64 l.rg] 26 (0, 0)) by rw [<- hw0]; exact nB _ _)
  have b0 := qB (i := 0) HX.out
  have P1 := hid (rput8z a n cap bs l.id 4 4 (n + 4) w0 (h.below B0.out (Nat.le_refl _)) (by omega) h1d.1 (by omega) (by omega) (by omega) rfl rfl)
  have hw9 : l.id % 18446744073709551616 = l.id := by omega
  have LG := hid (fun W => log19 l.rs W)
  have LE := hid (show layE l = beN l.id 4 ++ [l.ver % 256, logE l.rs, l.rg % 256] from rfl)
  obtain ⟨lg, hle⟩ : ∃ q, logE l.rs = q := ⟨_, rfl⟩
  rw [hle] at hmx hlg LE
  obtain ⟨ld, hld⟩ : ∃ q, logD l.rs = q := ⟨_, rfl⟩
  rw [hld] at hmx LG
  have HN := hid h.len
  have HBS := hid h.byt
  have HLB := hid hb
  have HM := hid hm
  clear h hi hz0 hz1 hz2 hb hrs hl hle hld hm
  go_enter Tryz.func175, Tryz.ntmps175
  go_wp2_with fail
  (try rw [hw0])
  clear hw0 b0
  with_reducible refine P1.out.mono ?_
  rintro e w1 ⟨a1, c1, rfl, ho1, hr1, hb1⟩
  have B1 := hid (tB B0.out hb1)
  have O1 := hid (show w1.ownsRow w0.heap.size 5 1 (.slice a1 (n + 4) c1) (n + 4) (u8s (bs ++ beN l.id 4)) by
    have h1 := ho1.own
    rw [hr1.len] at h1
    exact h1)
  have F1 := hid (show Fr (fun j => w0.heap.size <= j) w0 w1 from Fr.of_below hb1)
  have KX := hid (show ∀ W, Fr (fun j => w0.heap.size <= j) w0 W -> W.cell? ⟨w.heap.size, 1, none⟩ = some (.int .i64 l.ver) /\ W.cell? ⟨w.heap.size, 2, none⟩ = some (.int .i64 l.rs) /\ W.cell? ⟨w.heap.size, 3, none⟩ = some (.int .i64 l.rg) from fun W hW =>
    have e := (hW.block w.heap.size (lB HX.out) (by have := lB HX.out; omega)).trans HX.out
    ⟨qB e, qB e, qB e⟩)
  have KD := hid (KX.out w1.drew F1.out.drew)
  have KA := hid (fun (o : Obj) => KX.out _ ((F1.out.alloc o).drew))
  have FG := hid (show ∀ (o : Obj) W, ((w1.alloc o).drew).grownBy W (Value.slice a1 (n + 4) c1).ownBlock -> Fr (fun j => w0.heap.size <= j) w0 W from fun o W hg => (F1.out.alloc o).trans ⟨hg.os, hg.tape, hg.output, hg.size, fun k hk hn => hg.block k hk (fun e => hn ((O1.out.lt k e.symm).1))⟩ (fun j hj => .inl hj))
  have s1 := hid (show w0.heap.size <= w1.heap.size from F1.out.size)
  have q1 : IntKind.u8.wrap l.ver = l.ver % 256 := by simp [IntKind.wrap, IntKind.bits, IntKind.signed]
  have q2 : (if ld < 0 then (0 : Int) else ld) = lg := by rw [<- hmx]; split <;> omega
  have q3 : IntKind.u8.wrap lg = lg := by rw [show IntKind.u8.wrap lg = lg % 256 from by simp [IntKind.wrap, IntKind.bits, IntKind.signed]]; exact hlg
  have q4 : IntKind.u8.wrap l.rg = l.rg % 256 := by simp [IntKind.wrap, IntKind.bits, IntKind.signed]
  clear ho1 hr1 hb1 P1 hmx hlg
  go_upto_region 2 with fail
  go_region_held3 (fun w' => w'.cell? ⟨w.heap.size, 1, none⟩ = some (.int .i64 l.ver) /\ w'.cell? ⟨w.heap.size, 2, none⟩ = some (.int .i64 l.rs) /\ w'.cell? ⟨w.heap.size, 3, none⟩ = some (.int .i64 l.rg)) (first | with_reducible exact KD.out | with_reducible exact KA.out _ | with_reducible exact hS3)
    (first
      | ((go_at_call 243); (with_reducible refine (LG.out _).mono ?_); (rintro e x2 ⟨rfl, rfl⟩))
      | ((with_reducible apply step_app (hgd := rfl) (t := 33) (base := w0.heap.size) (e := 5) (i := i0) (z := .int .u8 0) (size := 1) (bytes := 1) (v := .slice a1 (n + 4) c1) (n := n + 4) (xs := u8s (bs ++ beN l.id 4)) (m := 3) (news := [.int .u8 (l.ver % 256), .int .u8 lg, .int .u8 (l.rg % 256)]) (ht := Tryz.underlying33) (hi := I1.out) (hz := I2.out) (hsize := I3.out) (hby := I4.out) (hzs := rfl)); (case ho => exact rfl); (case hs => exact rfl); (case hx => exact rfl); (case hsz => decide); (case hown => exact (O1.out.alloc _).drew); (case hsrc => exact src_lit #[.int .u8 (l.ver % 256), .int .u8 lg, .int .u8 (l.rg % 256)] (0, 0) (nB w1 _) rfl); (case h1 => exact ints_one .u8 [_, _, _]); (case h63 => unfold maxLen; omega); (case hbytes => omega); (case hbase => exact Nat.le_trans s1.out (Nat.le_of_lt (by simp))); (intro v3 w3 ho3 hg3); (have hF3 := FG.out _ _ hg3); (have hS3 := KX.out _ hF3)))
  have FIN := hid (show ∃ a' c', v3 = .slice a' (n + 7) c' /\ Own8 w.heap.size w3 (.slice a' (n + 7) c') (bs ++ layE l) /\ Rd8 w3 a' (n + 7) c' (bs ++ layE l) /\ Below w.heap.size w w3 from by
    have hbl : (bs ++ layE l).length = n + 7 := by rw [List.length_append, layE_length, HN.out]
    have o1 : Own8 w0.heap.size w3 v3 (bs ++ layE l) := ⟨by
      rw [hbl, LE.out, <- List.append_assoc, u8s, List.map_append]
      exact ho3, HBS.out.app HLB.out⟩
    have o2 : Own8 w.heap.size w3 v3 (bs ++ layE l) := o1.mono B0.out.size
    obtain ⟨a', c', e, hr⟩ := o2.rd
    rw [hbl] at e hr
    subst e
    exact ⟨a', c', rfl, o2, hr, B0.out.trans ⟨hF3.os, hF3.tape, hF3.output, hF3.size, fun k hk => hF3.block k (Nat.lt_of_lt_of_le hk B0.out.size) (by have := B0.out.size; omega)⟩⟩)
  obtain ⟨a3, c3, rfl, hfin⟩ := FIN.out
  have FIN2 := hid hfin
  clear ho3 hg3 hF3 hS3 FIN hfin q1 q2 q3 q4
  go_wp2_with fail
  go_ret
  rw [HM.out]
  exact ⟨_, _, rfl, FIN2.out⟩
theorem rlread8 (a : Option Addr) (c : Nat) (q : List Int) (id v k g : Int) (w : World) (h : Rd8 w a 7 c (q ++ [v, k, g])) (hq : q.length = 4) (h1d : beV q = id) (i1 : 1 <= id) (k0 : 0 <= k) (k1 : k <= 11) :
    Calls prog 345 #[.slice a 7 c] w fun e w' => e = .returned (.agg #[.int .i64 id, .int .i64 v, .int .i64 (2 ^ k.toNat), .int .i64 g]) /\ Below w.heap.size w w' := by
  have hc := h.cap_le
  obtain ⟨b, off, rfl, hb, e0⟩ := h.el 0 (by omega)
  have cell : ∀ j, j < 7 -> w.cell? ⟨b, off + j, none⟩ = some (.int .u8 ((q ++ [v, k, g])[j]?.getD 0)) := fun j hj => by
    obtain ⟨b', off', e, _, h2⟩ := h.el j hj
    cases e
    exact h2
  have c4 := cell 4 (by omega)
  have c5 := cell 5 (by omega)
  have c6 := cell 6 (by omega)
  rw [List.getElem?_append_right (by omega), hq] at c4 c5 c6
  simp only [Nat.sub_self, List.getElem?_cons_zero, List.getElem?_cons_succ, Option.getD_some, show 5 - 4 = 1 from rfl, show 6 - 4 = 2 from rfl] at c4 c5 c6
  have r4 : Rd8 w (some ⟨b, off, none⟩) 4 c q := by
    have := h.take 4 (by omega) (fun e => by cases e)
    rw [List.take_left' hq] at this
    exact this
  have bv : 0 <= v /\ v < 256 := h.byt v (by simp)
  have bg : 0 <= g /\ g < 256 := h.byt g (by simp)
  have bid := beV_lt q r4.byt
  rw [hq, h1d] at bid
  have b9 : id < 4294967296 := by
    have : (256 : Int) ^ 4 = 4294967296 := by decide
    omega
  have NU := hid (fun (W : World) (hW : Below w.heap.size w W) => rnum8 (some ⟨b, off, none⟩) 4 c q W (r4.below hW (Nat.le_refl _)) (by omega))
  rw [h1d] at NU
  have NU1 := hid (fun (o : Obj) => NU.out (w.alloc o).drew ((Below.refl _ _).alloc (Nat.le_refl _) _).drew)
  have NU2 := hid (fun (o o' : Obj) => NU.out ((w.alloc o).alloc o').drew (((Below.refl _ _).alloc (Nat.le_refl _) _).alloc (by simp) _).drew)
  have CK := hid (show ∀ W, Below w.heap.size w W -> W.cell? ⟨b, off + 4, none⟩ = some (.int .u8 v) /\ W.cell? ⟨b, off + 6, none⟩ = some (.int .u8 g) /\ W.cell? ⟨b, off + 5, none⟩ = some (.int .u8 k) from fun W hW => ⟨((bcell hW).1 _ _ hb).trans c4, ((bcell hW).1 _ _ hb).trans c6, ((bcell hW).1 _ _ hb).trans c5⟩)
  have S1 := hid (fun (o : Obj) => CK.out (w.alloc o).drew ((Below.refl _ _).alloc (Nat.le_refl _) _).drew)
  have S2 := hid (fun (o o' : Obj) => CK.out ((w.alloc o).alloc o').drew (((Below.refl _ _).alloc (Nat.le_refl _) _).alloc (by simp) _).drew)
  have hs4 := fun W => slice_hi (some ⟨b, off, none⟩) 7 c 4 4 rfl (by omega) W
  have C5 := hid c5
  have hx9 : id % 18446744073709551616 = id := by omega
  have h9 : IntKind.i64.wrap id = id := IntWalk.i64_in _ (by omega)
  have hv9 : IntKind.i64.wrap v = v := IntWalk.i64_in _ (by omega)
  have hg9 : IntKind.i64.wrap g = g := IntWalk.i64_in _ (by omega)
  clear h cell c4 c6 r4 e0 c5 h1d bid
  go_enter Tryz.func345, Tryz.ntmps345
  go_upto_region 1 with fail
  go_cut [3] (fun v3 wx => v3 = .pointer (some ⟨w.heap.size + 1, 0, none⟩) /\ wx.heap[w.heap.size]? = some (.cells #[.int .i64 0, .int .i64 0, .int .i64 0, .int .i64 0] 26 (0, 0)) /\ wx.heap[w.heap.size + 1]? = some (.cells #[.int .i64 id, .int .i64 v, .int .i64 0, .int .i64 g] 26 (0, 0)) /\ Below w.heap.size w wx)
  case first =>
   go_region_held3 (fun w' => w'.cell? ⟨b, off + 4, none⟩ = some (.int .u8 v) /\ w'.cell? ⟨b, off + 6, none⟩ = some (.int .u8 g) /\ w'.cell? ⟨b, off + 5, none⟩ = some (.int .u8 k)) (first | with_reducible exact S1.out _ | with_reducible exact S2.out _ _)
    (first
      | ((go_at_call 92); (first
          | ((with_reducible refine (NU1.out _).mono ?_); (rintro e w2 ⟨rfl, rfl⟩))
          | ((with_reducible refine (NU2.out _ _).mono ?_); (rintro e w2 ⟨rfl, rfl⟩)))))
   all_goals go_wp2_with fail
   all_goals go_meet
   all_goals exact ⟨rfl, old_at (nB w _) _, show ((w.alloc _).alloc _).heap[w.heap.size + 1]? = _ from by rw [<- heap_alloc_size w (.cells #[.int .i64 0, .int .i64 0, .int .i64 0, .int .i64 0] 26)]; exact nB _ _, (((Below.refl _ _).alloc (Nat.le_refl _) _).alloc (by simp) _).drew⟩
  case rest =>
    obtain ⟨rfl, h1, h2, h3⟩ := hcut
    have H1 := hid h1; have H2 := hid h2; have H3 := hid h3
    have q5 := (CK.out _ h3).2.2
    have c0 := qB (i := 0) h2
    have c1 := qB (i := 1) h2
    have c2 := qB (i := 2) h2
    have c3 := qB (i := 3) h2
    have z0 := qB (i := 0) h1
    have z1 := qB (i := 1) h1
    have z2 := qB (i := 2) h1
    have z3 := qB (i := 3) h1
    have f2 := zB (i := 2) h2
    have y0 := zB (i := 0) h1
    have y1 := zB (i := 1) h1
    have y2 := zB (i := 2) h1
    have y3 := zB (i := 3) h1
    have hl2 := lB h2
    have HKW := hid (show wrap64 (2 ^ k.toNat) = 2 ^ k.toNat by
      have : k = 0 \/ k = 1 \/ k = 2 \/ k = 3 \/ k = 4 \/ k = 5 \/ k = 6 \/ k = 7 \/ k = 8 \/ k = 9 \/ k = 10 \/ k = 11 := by omega
      rcases this with rfl | rfl | rfl | rfl | rfl | rfl | rfl | rfl | rfl | rfl | rfl | rfl <;> decide +kernel)
    have hne : (id == 0) = false := beq_eq_false_iff_ne.2 (by omega)
    have hk8 : (if k < 12 then k else 12) = k := if_pos (by omega)
    clear h1 h2 h3
    go_wp2_with fail
    have hx := (Below.heap_setCell wc ⟨w.heap.size + 1, 2, none⟩ (.int .i64 (wrap64 (2 ^ k.toNat))) w.heap.size (by show w.heap.size ≠ w.heap.size + 1; omega)).trans H1.out
    refine bodyPost_ret (results_cell_row rfl _ _ w.heap.size _ _ _ _ rfl (uB (uB (uB (uB hx _) _) _) _) Tryz.underlying26 rfl (by kernel_rfl)) rfl ?_
    rw [HKW.out]
    exact ⟨rfl, sB (sB (sB (sB (sB H3.out (by omega)) (Nat.le_refl _)) (Nat.le_refl _)) (Nat.le_refl _)) (Nat.le_refl _)⟩
theorem rreadz (a : Option Addr) (c : Nat) (w : World) (h : Rd8 w a 7 c (List.replicate 7 0)) :
    Calls prog 345 #[.slice a 7 c] w fun e w' => e = .returned (.agg #[.int .i64 0, .int .i64 0, .int .i64 0, .int .i64 0]) /\ Below w.heap.size w w' := by
  have hc := h.cap_le
  obtain ⟨b, off, rfl, hb, e0⟩ := h.el 0 (by omega)
  have cell : ∀ j, j < 7 -> w.cell? ⟨b, off + j, none⟩ = some (.int .u8 ((List.replicate 7 (0 : Int))[j]?.getD 0)) := fun j hj => by
    obtain ⟨b', off', e, _, h2⟩ := h.el j hj
    cases e
    exact h2
  have c4 := cell 4 (by omega)
  have c5 := cell 5 (by omega)
  have c6 := cell 6 (by omega)
  simp only [List.replicate, List.getElem?_cons_zero, List.getElem?_cons_succ, Option.getD_some] at c4 c5 c6
  have r4 : Rd8 w (some ⟨b, off, none⟩) 4 c (List.replicate 4 0) := by
    have := h.take 4 (by omega) (fun e => by cases e)
    exact this
  have NU := hid (fun (W : World) (hW : Below w.heap.size w W) => rnum8 (some ⟨b, off, none⟩) 4 c (List.replicate 4 0) W (r4.below hW (Nat.le_refl _)) (by omega))
  rw [show beV (List.replicate 4 0) = 0 from rfl] at NU
  have NU1 := hid (fun (o : Obj) => NU.out (w.alloc o).drew ((Below.refl _ _).alloc (Nat.le_refl _) _).drew)
  have NU2 := hid (fun (o o' : Obj) => NU.out ((w.alloc o).alloc o').drew (((Below.refl _ _).alloc (Nat.le_refl _) _).alloc (by simp) _).drew)
  have CK := hid (show ∀ W, Below w.heap.size w W -> W.cell? ⟨b, off + 4, none⟩ = some (.int .u8 0) /\ W.cell? ⟨b, off + 6, none⟩ = some (.int .u8 0) /\ W.cell? ⟨b, off + 5, none⟩ = some (.int .u8 0) from fun W hW => ⟨((bcell hW).1 _ _ hb).trans c4, ((bcell hW).1 _ _ hb).trans c6, ((bcell hW).1 _ _ hb).trans c5⟩)
  have S1 := hid (fun (o : Obj) => CK.out (w.alloc o).drew ((Below.refl _ _).alloc (Nat.le_refl _) _).drew)
  have S2 := hid (fun (o o' : Obj) => CK.out ((w.alloc o).alloc o').drew (((Below.refl _ _).alloc (Nat.le_refl _) _).alloc (by simp) _).drew)
  have hs4 := fun W => slice_hi (some ⟨b, off, none⟩) 7 c 4 4 rfl (by omega) W
  have C5 := hid c5
  clear h cell c4 c6 r4 e0 c5
  go_enter Tryz.func345, Tryz.ntmps345
  go_upto_region 1 with fail
  go_cut [3] (fun v3 wx => v3 = .pointer (some ⟨w.heap.size + 1, 0, none⟩) /\ wx.heap[w.heap.size]? = some (.cells #[.int .i64 0, .int .i64 0, .int .i64 0, .int .i64 0] 26 (0, 0)) /\ wx.heap[w.heap.size + 1]? = some (.cells #[.int .i64 0, .int .i64 0, .int .i64 0, .int .i64 0] 26 (0, 0)) /\ Below w.heap.size w wx)
  case first =>
   go_region_held3 (fun w' => w'.cell? ⟨b, off + 4, none⟩ = some (.int .u8 0) /\ w'.cell? ⟨b, off + 6, none⟩ = some (.int .u8 0) /\ w'.cell? ⟨b, off + 5, none⟩ = some (.int .u8 0)) (first | with_reducible exact S1.out _ | with_reducible exact S2.out _ _)
    (first
      | ((go_at_call 92); (first
          | ((with_reducible refine (NU1.out _).mono ?_); (rintro e w2 ⟨rfl, rfl⟩))
          | ((with_reducible refine (NU2.out _ _).mono ?_); (rintro e w2 ⟨rfl, rfl⟩)))))
   all_goals go_wp2_with fail
   all_goals go_meet
   all_goals exact ⟨rfl, old_at (nB w _) _, show ((w.alloc _).alloc _).heap[w.heap.size + 1]? = _ from by rw [<- heap_alloc_size w (.cells #[.int .i64 0, .int .i64 0, .int .i64 0, .int .i64 0] 26)]; exact nB _ _, (((Below.refl _ _).alloc (Nat.le_refl _) _).alloc (by simp) _).drew⟩
  case rest =>
    obtain ⟨rfl, h1, h2, h3⟩ := hcut
    have H1 := hid h1; have H2 := hid h2; have H3 := hid h3
    have q5 := (CK.out _ h3).2.2
    have c0 := qB (i := 0) h2
    have c1 := qB (i := 1) h2
    have c2 := qB (i := 2) h2
    have c3 := qB (i := 3) h2
    have z0 := qB (i := 0) h1
    have z1 := qB (i := 1) h1
    have z2 := qB (i := 2) h1
    have z3 := qB (i := 3) h1
    have f2 := zB (i := 2) h2
    have y0 := zB (i := 0) h1
    have y1 := zB (i := 1) h1
    have y2 := zB (i := 2) h1
    have y3 := zB (i := 3) h1
    have hl2 := lB h2
    clear h1 h2 h3
    go_wp2_with fail
    refine bodyPost_ret (results_cell_row rfl _ _ w.heap.size _ _ _ _ rfl (uB (uB (uB (uB H1.out _) _) _) _) Tryz.underlying26 rfl (by kernel_rfl)) rfl ?_
    exact ⟨rfl, sB (sB (sB (sB H3.out (Nat.le_refl _)) (Nat.le_refl _)) (Nat.le_refl _)) (Nat.le_refl _)⟩
end Go.Proofs.YtbikkioipamlmaaGreatDoor
