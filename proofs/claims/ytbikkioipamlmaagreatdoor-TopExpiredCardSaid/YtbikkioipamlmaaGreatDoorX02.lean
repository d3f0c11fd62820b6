/-
  Laws and contracts for the statement TopExpired.
-/
import Derived.Lib.AppendZeros
import Derived.Test.YtbikkioipamlmaaGreatDoorX01
open Go.Lib (hid)
open Go.Proofs.Tryz (prog)
set_option linter.unusedVariables false
set_option linter.unusedSimpArgs false
set_option maxRecDepth 100000
set_option maxHeartbeats 20000000
namespace Go.Proofs.YtbikkioipamlmaaGreatDoor
def crcS (T : Nat -> Int) (c x : Int) : Int :=
  let c1 := bits BinOp.xor IntKind.u32 c x
  let c2 := bits BinOp.xor IntKind.u32 (c1 / 16) (T (bits BinOp.and IntKind.u32 c1 15).toNat)
  bits BinOp.xor IntKind.u32 (c2 / 16) (T (bits BinOp.and IntKind.u32 c2 15).toNat)
def crcN (c : Int) : Int := bits BinOp.xor IntKind.u32 IntKind.u32.max c
def crcU (T : Nat -> Int) (c : Int) (bs : List Int) : Int := crcN (bs.foldl (crcS T) (crcN c))
def frameB (kind : Int) (p : List Int) : List Int := kind :: (p ++ List.replicate (59 - p.length) 0)
abbrev SumF := List Int -> List Int -> Int
def crcF (T : Nat -> Int) : SumF := fun a b => crcU T (crcU T 0 a) b
def frameSum (T : SumF) (kind salt sector : Int) (p : List Int) : Int := T (beN salt 8 ++ beN sector 4) (frameB kind p)
def frameE (T : SumF) (kind salt sector : Int) (p : List Int) : List Int := frameB kind p ++ beN (frameSum T kind salt sector p) 4
def possP (kind salt sector : Int) : Prop := 1 <= kind /\ kind <= 4 /\ 0 <= salt /\ 0 <= sector /\ sector < 1048576
instance (kind salt sector : Int) : Decidable (possP kind salt sector) := by unfold possP; infer_instance
def frameD (T : SumF) (kind salt sector : Int) (b : List Int) : Option (List Int) :=
  if b.length = 64 /\ possP kind salt sector /\ frameE T kind salt sector ((b.drop 1).take 59) = b then some ((b.drop 1).take 59) else none
theorem frameB_length (kind : Int) (p : List Int) (h : p.length <= 59) : (frameB kind p).length = 60 := by simp [frameB]; omega
theorem frameE_length (T : SumF) (kind salt sector : Int) (p : List Int) (h : p.length <= 59) : (frameE T kind salt sector p).length = 64 := by
  simp [frameE, frameB_length kind p h, bL]
theorem frameB_byte {kind : Int} {p : List Int} (h0 : 0 <= kind) (h1 : kind < 256) (hp : Byte8 p) : Byte8 (frameB kind p) := .cons h0 h1 (hp.app (.zeros _))
theorem frameB_pad (kind : Int) (p : List Int) (h : p.length <= 59) : frameB kind (p ++ List.replicate (59 - p.length) 0) = frameB kind p := by
  unfold frameB
  rw [show 59 - (p ++ List.replicate (59 - p.length) (0 : Int)).length = 0 from by simp; omega]
  simp
theorem frameE_pad (T : SumF) (kind salt sector : Int) (p : List Int) (h : p.length <= 59) : frameE T kind salt sector (p ++ List.replicate (59 - p.length) 0) = frameE T kind salt sector p := by
  unfold frameE frameSum
  rw [frameB_pad kind p h]
theorem frameE_mid (T : SumF) (kind salt sector : Int) (p : List Int) (h : p.length <= 59) : ((frameE T kind salt sector p).drop 1).take 59 = p ++ List.replicate (59 - p.length) 0 := by
  unfold frameE frameB
  rw [List.cons_append, List.drop_succ_cons, List.drop_zero, List.take_append_of_le_length (by simp; omega), List.take_of_length_le (by simp; omega)]
theorem frameD_E {T : SumF} {kind salt sector : Int} {p : List Int} (h : p.length <= 59) (hp : possP kind salt sector) : frameD T kind salt sector (frameE T kind salt sector p) = some (p ++ List.replicate (59 - p.length) 0) := by
  unfold frameD
  rw [frameE_mid T kind salt sector p h, frameE_pad T kind salt sector p h, if_pos ⟨frameE_length T kind salt sector p h, hp, rfl⟩]
theorem frameD_some {T : SumF} {kind salt sector : Int} {b p : List Int} (h : frameD T kind salt sector b = some p) :
    b.length = 64 /\ possP kind salt sector /\ p.length = 59 /\ frameE T kind salt sector p = b /\ p = (b.drop 1).take 59 := by
  unfold frameD at h
  split at h
  · next hc =>
    obtain ⟨h1, h2, h3⟩ := hc
    cases h
    exact ⟨h1, h2, by simp; omega, h3, rfl⟩
  · cases h
theorem frameD_head {T : SumF} {kind salt sector : Int} {b p : List Int} (h : frameD T kind salt sector b = some p) : b[0]? = some kind := by
  obtain ⟨_, _, _, h4, _⟩ := frameD_some h
  rw [<- h4]; rfl
theorem frameD_zero (T : SumF) (kind salt sector : Int) (n : Nat) : frameD T kind salt sector (List.replicate n 0) = none := by
  cases h : frameD T kind salt sector (List.replicate n 0) with
  | none => rfl
  | some p =>
    have h1 := frameD_head h
    obtain ⟨_, ⟨h2, _⟩, _⟩ := frameD_some h
    rw [List.getElem?_replicate] at h1
    split at h1
    · cases h1; omega
    · cases h1
end Go.Proofs.YtbikkioipamlmaaGreatDoor
namespace Go.Proofs.YtbikkioipamlmaaGreatDoor
open Go.RowKit
structure CrcT (T : Nat -> Int) (w : World) : Prop where
  cell : ∀ i, i < 16 -> w.cell? ⟨0, i, none⟩ = some (.int .u32 (T i))
theorem CrcT.lt {T : Nat -> Int} {w : World} (h : CrcT T w) : 0 < w.heap.size := World.block_lt_of_cell? _ _ (h.cell 0 (by omega))
theorem CrcT.below {T : Nat -> Int} {B : Nat} {w w' : World} (h : CrcT T w) (hb : Below B w w') (hB : 0 < B) : CrcT T w' := ⟨fun i hi => by rw [hb.cell (p := ⟨0, i, none⟩) hB]; exact h.cell i hi⟩
theorem wrap_u32 (n : Int) (h0 : 0 <= n) (h1 : n < 2 ^ 32) : IntKind.u32.wrap n = n := by simp [IntKind.wrap, IntKind.bits, IntKind.signed]; omega
theorem and15u (a b : Int) : ∃ m : Nat, m < 16 /\ bits .and .u32 (bits .xor .u32 a b) 15 = (m : Int) := by
  have h0 := bits_lo_u32 .xor a b
  have h1 := bits_hi_u32 .xor a b
  have h2 : bits .and .u32 (bits .xor .u32 a b) 15 = bits .xor .u32 a b % 16 := bits_mask .u32 32 (by decide) wrap_u32 4 (by decide) _ h0 (by omega)
  exact ⟨(bits .xor .u32 a b % 16).toNat, by omega, by rw [h2]; omega⟩
theorem step8 (T : Nat -> Int) (c x : Int) (w : World) (h : CrcT T w) (x0 : 0 <= x) (x1 : x < 256) :
    Calls prog 340 #[.int .u32 c, .int .u8 x] w fun e w' => e = .returned (.int .u32 (crcS T c x)) /\ w = w' := by
  have hw : IntKind.u32.wrap x = x := by simp [IntKind.wrap, IntKind.bits, IntKind.signed]; omega
  obtain ⟨m1, l1, e1⟩ := and15u c x
  obtain ⟨m2, l2, e2⟩ := and15u (bits .xor .u32 c x / 16) (T m1)
  have g1 := h.cell m1 l1
  have g2 := h.cell m2 l2
  have E := hid (show crcS T c x = bits .xor .u32 (bits .xor .u32 (bits .xor .u32 c x / 16) (T m1) / 16) (T m2) by simp only [crcS, e1, e2, Int.toNat_natCast])
  clear h
  go_enter Tryz.func340, Tryz.ntmps340
  go_wp2_with fail
  go_ret
  exact ⟨by rw [E.out]; rfl, rfl⟩
theorem update8 (T : Nat -> Int) (c : Int) (a : Option Addr) (n cap : Nat) (bs : List Int) (w : World) (h : CrcT T w) (hr : Rd8 w a n cap bs) (hn : n <= 9223372036854775807) (c0 : 0 <= c) (c1 : c < 4294967296) :
    Calls prog 293 #[.int .u32 c, .slice a n cap] w fun e w' => e = .returned (.int .u32 (crcU T c bs)) /\ w = w' := by
  have HR := hid hr
  have HT := hid h
  have hl := hr.len
  clear hr h
  go_enter Tryz.func293, Tryz.ntmps293
  go_wp2_with fail
  go_loop [0, 6, 11] (fun v _ j => ∃ k : Nat, k <= n /\ j = .int .i64 k /\ v = .int .u32 ((bs.take k).foldl (crcS T) (crcN c))) (fun _ _ j => n - (intOf j).toNat)
  case atStart => exact ⟨0, Nat.zero_le _, rfl, rfl⟩
  case round =>
    obtain ⟨k, hk, rfl, rfl⟩ := hrel
    by_cases hlt : k < n
    · obtain ⟨g, off, rfl, _, hcell⟩ := HR.out.el k hlt
      obtain ⟨z, hz⟩ : ∃ z, bs[k]? = some z := ⟨_, List.getElem?_eq_getElem (by rw [hl]; exact hlt)⟩
      rw [hz] at hcell
      simp only [Option.getD_some] at hcell
      obtain ⟨z0, z1⟩ := HR.out.byt z (List.mem_of_getElem? hz)
      have HS := hid (show (bs.take (k + 1)).foldl (crcS T) (crcN c) = crcS T ((bs.take k).foldl (crcS T) (crcN c)) z by
        rw [List.take_add_one, hz]; simp)
      clear hz
      go_wp2_with fail
      with_reducible refine (step8 T _ z _ HT.out z0 z1).mono ?_
      rintro e w1 ⟨rfl, rfl⟩
      go_wp2_with fail
      go_round
      case rel => exact ⟨k + 1, by omega, by go_num, by rw [HS.out]⟩
      case measure => simp [intOf]; omega
    · obtain rfl : k = n := by omega
      go_wp2_with fail
      go_ret
      rw [List.take_of_length_le (by rw [hl]; exact Nat.le_refl _)]
      exact ⟨rfl, rfl⟩
theorem crcU_rng (T : Nat -> Int) (c : Int) (bs : List Int) : 0 <= crcU T c bs /\ crcU T c bs < 4294967296 := by
  have h0 := bits_lo_u32 .xor IntKind.u32.max (bs.foldl (crcS T) (crcN c))
  have h1 := bits_hi_u32 .xor IntKind.u32.max (bs.foldl (crcS T) (crcN c))
  show 0 <= bits BinOp.xor IntKind.u32 IntKind.u32.max (bs.foldl (crcS T) (crcN c)) /\ bits BinOp.xor IntKind.u32 IntKind.u32.max (bs.foldl (crcS T) (crcN c)) < 4294967296
  omega
theorem sum8 (T : Nat -> Int) (a : Option Addr) (n cap : Nat) (bs : List Int) (w : World) (h : CrcT T w) (hr : Rd8 w a n cap bs) (hn : n <= 9223372036854775807) :
    Calls prog 271 #[.slice a n cap] w fun e w' => e = .returned (.int .u32 (crcU T 0 bs)) /\ w = w' := by
  have HR := hid hr
  have HT := hid h
  clear hr h
  go_enter Tryz.func271, Tryz.ntmps271
  go_wp2_with fail
  with_reducible refine (update8 T _ a n cap bs _ HT.out HR.out hn (by decide) (by decide)).mono ?_
  rintro e w1 ⟨rfl, rfl⟩
  go_wp2_with fail
  go_ret
  exact ⟨rfl, rfl⟩
def Rows8 (w : World) (a : Option Addr) (ls : List (List Int)) : Prop :=
  ∀ i l, ls[i]? = some l -> ∃ b off a' cap, a = some ⟨b, off, none⟩ /\ b < w.heap.size /\ w.cell? ⟨b, off + i, none⟩ = some (.slice a' l.length cap) /\ Rd8 w a' l.length cap l
theorem Rows8.below {w w' : World} {B : Nat} {a : Option Addr} {ls : List (List Int)} (h : Rows8 w a ls) (hb : Below B w w') (hB : w.heap.size <= B) : Rows8 w' a ls := by
  intro i l hl
  obtain ⟨b, off, a', cap, e, h1, h2, h3⟩ := h i l hl
  exact ⟨b, off, a', cap, e, Nat.lt_of_lt_of_le h1 hb.size, by rw [hb.cell (by show b < B; omega)]; exact h2, h3.below hb hB⟩
theorem grow8 (n : Nat) (w : World) (hn : n <= 1099511627776) : Calls prog 326 #[.slice none 0 0, .int .i64 (n : Int)] w fun e w' => ∃ v, e = .returned v /\ w'.ownsRow w.heap.size 5 1 v 0 [] /\ Below w.heap.size w w' := by
  obtain ⟨i0, hi, hz0, hz1, hz2⟩ := info_parts u8info
  rcases Nat.eq_zero_or_pos n with rfl | h0
  · go_enter Tryz.func326, Tryz.ntmps326
    go_wp2_with fail
    go_ret
    exact ⟨_, rfl, World.ownsRow_nil _ _ _ _, Below.refl _ _⟩
  · have happ := fun W => Lib.run_append_nil_zeros (P := prog) W 33 3 33 5 i0 (.int .u8 0) .i64 .i64 Tryz.underlying33 Tryz.underlying3 hi hz0 n h0 (by omega) (by omega) (by rw [hz2]; omega)
    have hge : n <= grownCap w n 0 5 := grownCap_ge w _ 0 _
    have hle := grownCap_le_maxLen w n 0 5 (by unfold maxLen; omega)
    have h0' : (0 : Int) < (n : Int) := by omega
    have H := hid (happ w)
    clear happ hi hz0 hz1 hz2
    generalize grownCap w n 0 5 = C at *
    go_enter Tryz.func326, Tryz.ntmps326
    go_wp2_with (at_builtin; refine Lib.wpList_append_run _ rfl _ _ _ _ rfl _ _ rfl rfl _ _ H.out ?_)
    go_ret
    refine ⟨_, rfl, ⟨rfl, .inr ⟨w.heap.size, C, _, rfl, Nat.le_refl _, (show (w.heap.push _)[w.heap.size]? = some _ by simp; rfl), Nat.zero_le _, hle, ?_, ?_⟩⟩, ((Below.refl _ _).alloc (Nat.le_refl _) _).drew⟩
    · simp [size_zeroCells]; omega
    · simp
theorem concat8 (a : Option Addr) (n cap : Nat) (ls : List (List Int)) (w : World) (hl : ls.length = n) (hn : n <= 1000) (h : Rows8 w a ls) (ht : ls.flatten.length <= 1099511627776) :
    Calls prog 272 #[.slice a n cap] w (Ret8 w ls.flatten) := by
  have H := hid h
  obtain ⟨i0, hi, hz0, hz1, hz2⟩ := info_parts u8info
  have I1 := hid hi; have I2 := hid hz0; have I3 := hid hz1; have I4 := hid hz2
  have hpre : ∀ k, (ls.take k).flatten.length <= ls.flatten.length := by
    intro k
    conv => rhs; rw [<- List.take_append_drop k ls, List.flatten_append, List.length_append]
    omega
  have HP := hid hpre
  clear h hi hz0 hz1 hz2 hpre
  have hstep : ∀ k, k < n -> ∃ l, ls[k]? = some l /\ (ls.take (k + 1)).flatten = (ls.take k).flatten ++ l := by
    intro k hk
    refine ⟨ls[k]'(by omega), List.getElem?_eq_getElem (by omega), ?_⟩
    rw [List.take_add_one, List.getElem?_eq_getElem (by omega)]
    simp only [Option.toList_some, List.flatten_append, List.flatten_cons, List.flatten_nil, List.append_nil]
  have HS := hid hstep
  clear hstep
  go_enter Tryz.func272, Tryz.ntmps272
  go_wp2_with fail
  go_loop [3, 5, 11] (fun s _ j => ∃ k : Nat, k <= n /\ j = .int .i64 k /\ s = .int .i64 ((ls.take k).flatten.length : Nat)) (fun _ _ j => n - (intOf j).toNat)
  case atStart => exact ⟨0, Nat.zero_le _, rfl, rfl⟩
  case round =>
    obtain ⟨k, hk, rfl, rfl⟩ := hrel
    by_cases hlt : k < n
    · obtain ⟨l, hlk, hfl⟩ := HS.out k hlt
      obtain ⟨b, off, a', c', rfl, _, hcell, hr⟩ := H.out k l hlk
      have hp := HP.out (k + 1)
      have hq := congrArg List.length hfl
      rw [List.length_append] at hq
      have HQ := hid hq
      generalize (ls.take k).flatten.length = q at *
      have hq2 : q + l.length <= 1099511627776 := by omega
      clear hq hfl hlk hr hp
      have hq3 : (0 : Int) <= (q : Int) + (l.length : Int) := by omega
      go_wp2_with fail
      go_round
      case rel => exact ⟨k + 1, by omega, by go_num, by rw [HQ.out]; go_num⟩
      case measure => simp [intOf]; omega
    · obtain rfl : k = n := by omega
      rw [List.take_of_length_le (by omega)]
      obtain ⟨tot, htot⟩ : ∃ tot, ls.flatten.length = tot := ⟨_, rfl⟩
      rw [htot] at ht ⊢
      have HTot := hid htot
      clear htot
      go_wp2_with fail
      with_reducible refine (grow8 _ _ ht).mono ?_
      rintro e w1 ⟨v, rfl, ho, hb⟩
      have O1 := hid ho
      have B1 := hid hb
      clear ho hb
      go_wp2_with fail
      go_loopw [6, 8, 27] (fun v _ j wr => ∃ i : Nat, i <= k /\ j = .int .i64 i /\ wr.ownsRow w.heap.size 5 1 v (ls.take i).flatten.length (u8s (ls.take i).flatten) /\ Below w.heap.size w wr /\ Byte8 (ls.take i).flatten) (fun _ _ j _ => k - (intOf j).toNat)
      case atStart => exact ⟨0, Nat.zero_le _, rfl, O1.out, B1.out, .nil⟩
      case round =>
        obtain ⟨i, hik, rfl, ho, hb, hby⟩ := hrel
        have O2 := hid ho
        have B2 := hid hb
        clear ho hb
        by_cases hlt : i < k
        · obtain ⟨l, hlk, hfl⟩ := HS.out i hlt
          obtain ⟨b, off, a', c', rfl, hbs, hcell, hr⟩ := H.out.below B2.out (Nat.le_refl _) i l hlk
          have hp := HP.out (i + 1)
          rw [HTot.out] at hp
          have hq := congrArg List.length hfl
          rw [List.length_append] at hq
          go_wp2_with (at_builtin; refine Stop.out ?_)
          refine Stop.of (wpList_app rfl _ _ 33 rfl w.heap.size 5 i0 (.int .u8 0) 1 1 Tryz.underlying33 I1.out I2.out I3.out I4.out rfl (by decide) _ _ _ rfl O2.out _ _ _ rfl hr.src (ints_one _ _) (by unfold maxLen; omega) (by omega) B2.out.size ?_)
          intro v' w2 ho hg
          have B3 := hid (bel_grow B2.out O2.out hg)
          have O3 := hid (show w2.ownsRow w.heap.size 5 1 v' (ls.take (i + 1)).flatten.length (u8s (ls.take (i + 1)).flatten) by
            rw [hq, hfl, u8s, List.map_append]; exact ho)
          have hby2 : Byte8 (ls.take (i + 1)).flatten := by rw [hfl]; exact hby.app hr.byt
          clear hp ho hg hq hfl hlk hr hcell
          go_wp2_with fail
          go_roundw
          case rel => exact ⟨i + 1, by omega, by go_num, O3.out, B3.out, hby2⟩
          case measure => simp [intOf]; omega
        · obtain rfl : i = k := by omega
          rw [List.take_of_length_le (by omega)] at O2 hby
          go_wp2_with fail
          go_ret
          exact ⟨_, rfl, ⟨O2.out, hby⟩, B2.out⟩
theorem rows3 {w : World} {t : TypeId} {a1 : Option Addr} {n1 c1 : Nat} {l1 : List Int} {a2 : Option Addr} {n2 c2 : Nat} {l2 : List Int} {a3 : Option Addr} {n3 c3 : Nat} {l3 : List Int} (h1 : Rd8 w a1 n1 c1 l1) (h2 : Rd8 w a2 n2 c2 l2) (h3 : Rd8 w a3 n3 c3 l3) :
    Rows8 (w.alloc (.cells #[.slice a1 n1 c1, .slice a2 n2 c2, .slice a3 n3 c3] t)) (some ⟨w.heap.size, 0, none⟩) [l1, l2, l3] := by
  intro i l hi
  have hb : Below w.heap.size w (w.alloc (.cells #[.slice a1 n1 c1, .slice a2 n2 c2, .slice a3 n3 c3] t)) := (Below.refl _ _).alloc (Nat.le_refl _) _
  refine ⟨w.heap.size, 0, ?_⟩
  rw [Nat.zero_add, qB (nB w _)]
  match i, hi with
  | 0, hi => cases hi; have e := h1.len; subst e; exact ⟨a1, c1, rfl, by simp, rfl, h1.below hb (Nat.le_refl _)⟩
  | 1, hi => cases hi; have e := h2.len; subst e; exact ⟨a2, c2, rfl, by simp, rfl, h2.below hb (Nat.le_refl _)⟩
  | 2, hi => cases hi; have e := h3.len; subst e; exact ⟨a3, c3, rfl, by simp, rfl, h3.below hb (Nat.le_refl _)⟩
  | k + 3, hi => simp at hi
theorem rows4 {w : World} {t : TypeId} {a1 : Option Addr} {n1 c1 : Nat} {l1 : List Int} {a2 : Option Addr} {n2 c2 : Nat} {l2 : List Int} {a3 : Option Addr} {n3 c3 : Nat} {l3 : List Int} {a4 : Option Addr} {n4 c4 : Nat} {l4 : List Int} (h1 : Rd8 w a1 n1 c1 l1) (h2 : Rd8 w a2 n2 c2 l2) (h3 : Rd8 w a3 n3 c3 l3) (h4 : Rd8 w a4 n4 c4 l4) :
    Rows8 (w.alloc (.cells #[.slice a1 n1 c1, .slice a2 n2 c2, .slice a3 n3 c3, .slice a4 n4 c4] t)) (some ⟨w.heap.size, 0, none⟩) [l1, l2, l3, l4] := by
  intro i l hi
  have hb : Below w.heap.size w (w.alloc (.cells #[.slice a1 n1 c1, .slice a2 n2 c2, .slice a3 n3 c3, .slice a4 n4 c4] t)) := (Below.refl _ _).alloc (Nat.le_refl _) _
  refine ⟨w.heap.size, 0, ?_⟩
  rw [Nat.zero_add, qB (nB w _)]
  match i, hi with
  | 0, hi => cases hi; have e := h1.len; subst e; exact ⟨a1, c1, rfl, by simp, rfl, h1.below hb (Nat.le_refl _)⟩
  | 1, hi => cases hi; have e := h2.len; subst e; exact ⟨a2, c2, rfl, by simp, rfl, h2.below hb (Nat.le_refl _)⟩
  | 2, hi => cases hi; have e := h3.len; subst e; exact ⟨a3, c3, rfl, by simp, rfl, h3.below hb (Nat.le_refl _)⟩
  | 3, hi => cases hi; have e := h4.len; subst e; exact ⟨a4, c4, rfl, by simp, rfl, h4.below hb (Nat.le_refl _)⟩
  | k + 4, hi => simp at hi
theorem possible8 (kind salt sector : Int) (w : World) : Calls prog 292 #[.int .i64 kind, .int .i64 salt, .int .i64 sector] w fun e w' => e = .returned (.bool (decide (possP kind salt sector))) /\ w = w' := by
  go_enter Tryz.func292, Tryz.ntmps292
  go_wp2_with fail
  all_goals
    go_ret
    refine ⟨ret_bl ?_, rfl⟩
    rw [Bool.eq_iff_iff]
    simp only [decide_eq_true_eq, Bool.false_eq_true, false_iff]
    simp only [possP]
    omega
theorem fenc8 (T : Nat -> Int) (kind salt sector : Int) (a : Option Addr) (n cap : Nat) (p : List Int) (w : World) (h : CrcT T w) (hr : Rd8 w a n cap p) (hp : possP kind salt sector) (hn : n <= 59) (h64 : salt < 9223372036854775808) :
    Calls prog 229 #[.int .i64 kind, .int .i64 salt, .int .i64 sector, .slice a n cap] w fun e w' => ∃ v, e = .returned (.tuple #[v, .int .i64 0]) /\ Own8 w.heap.size w' v (frameE (crcF T) kind salt sector p) /\ Below w.heap.size w w' := by
  have H := hid h
  have HR := hid hr
  have hpd : decide (possP kind salt sector) = true := by simp [hp]
  obtain ⟨k1, k4, s0, c0, c1⟩ := hp
  obtain ⟨cs, hcs, hsz, hmk⟩ := make8 (59 - n) (59 - (n : Int)) (by omega) (by omega)
  have HCS := hid hcs
  clear h hr hcs
  go_enter Tryz.func229, Tryz.ntmps229
  go_wp2_with fail
  with_reducible refine (possible8 kind salt sector _).mono ?_
  rintro e w1 ⟨rfl, rfl⟩
  rw [hpd]
  go_wp2_with fail
  have hk : IntKind.u8.wrap kind = kind := by rw [IntKind.wrap_u8]; omega
  have hrows := rows3 (w := (w.alloc (.cells #[.int .u8 kind] 5)).alloc (.cells cs 5)) (t := 33)
    (rd_lit (n := 1) (c := 1) (zs := [kind]) (old_at (nB w (.cells #[.int .u8 kind] 5)) _) rfl rfl (Nat.le_refl _) (by unfold maxLen; omega) (.cons (by omega) (by omega) .nil))
    (HR.out.below (B := w.heap.size) (((Below.refl _ _).alloc (Nat.le_refl _) _).alloc (by simp) _) (Nat.le_refl _))
    (rd_lit (n := 59 - n) (c := 59 - n) (zs := List.replicate (59 - n) 0) (nB (w.alloc (.cells #[.int .u8 kind] 5)) (.cells cs 5)) HCS.out (by simp) (Nat.le_refl _) (by unfold maxLen; omega) (.zeros _))
  simp only [heap_alloc_size] at hrows
  have hlp := HR.out.len
  with_reducible refine (concat8 _ 3 3 [[kind], p, List.replicate (59 - n) 0] _ rfl (by omega) hrows (by simp; omega)).mono ?_
  rintro e w1 ⟨v, rfl, ho, hb⟩
  have hfl : [[kind], p, List.replicate (59 - n) 0].flatten = frameB kind p := by
    unfold frameB; rw [hlp]; simp
  rw [hfl] at ho
  have hb' := bel3 hb
  obtain ⟨a1, c1', rfl, hr1⟩ := ho.rd
  have hfb := frameB_length kind p (by omega)
  rw [hfb] at hr1 ⊢
  have B1 := hid hb'
  have R1 := hid hr1
  have T1 := hid (H.out.below hb' H.out.lt)
  clear ho hb hb' hfl hrows hr1
  go_wp2_with fail
  with_reducible refine (put8z none 0 0 [] salt 8 8 8 _ (.nilv _) (by omega) s0 (by omega) (by omega) (by omega) rfl rfl).mono ?_
  rintro e w2 ⟨a2, c2, rfl, _, hr2, hb⟩
  rw [List.nil_append] at hr2
  have B2 := hid (tB B1.out hb)
  have R2 := hid hr2
  have R3 := hid (R1.out.below hb (Nat.le_refl _))
  clear hb hr2
  go_wp2_with fail
  with_reducible refine (put8z a2 8 c2 _ sector 4 4 12 _ R2.out (by omega) c0 (by omega) (by omega) (by omega) rfl rfl).mono ?_
  rintro e w3 ⟨a3, c3, rfl, _, hr3, hb⟩
  have B3 := hid (tB B2.out hb)
  have R4 := hid (R3.out.below hb (Nat.le_refl _))
  have R5 := hid hr3
  have T3 := hid (H.out.below B3.out H.out.lt)
  clear hb hr3
  go_wp2_with fail
  with_reducible refine (sum8 T a3 12 c3 _ _ T3.out R5.out (by omega)).mono ?_
  rintro e w4 ⟨rfl, rfl⟩
  obtain ⟨s1, s2⟩ := crcU_rng T 0 (beN salt 8 ++ beN sector 4)
  go_wp2_with fail
  with_reducible refine (update8 T _ a1 60 c1' _ _ T3.out R4.out (by omega) s1 s2).mono ?_
  rintro e w4 ⟨rfl, rfl⟩
  obtain ⟨s3, s4⟩ := crcU_rng T (crcU T 0 (beN salt 8 ++ beN sector 4)) (frameB kind p)
  have HE := hid (show frameE (crcF T) kind salt sector p = frameB kind p ++ beN (crcU T (crcU T 0 (beN salt 8 ++ beN sector 4)) (frameB kind p)) 4 from rfl)
  generalize crcU T (crcU T 0 (beN salt 8 ++ beN sector 4)) (frameB kind p) = sum at *
  have hsw : IntKind.u64.wrap sum = sum := by simp [IntKind.wrap, IntKind.bits, IntKind.signed]; omega
  go_wp2_with fail
  with_reducible refine (put8z a1 60 c1' _ sum 4 4 64 _ R4.out (by omega) s3 (by omega) (by omega) (by omega) rfl rfl).mono ?_
  rintro e w5 ⟨a5, c5, rfl, ho, _, hb⟩
  have O5 := hid (show Own8 w.heap.size w5 (.slice a5 64 c5) (frameE (crcF T) kind salt sector p) by rw [HE.out]; exact ho.mono B3.out.size)
  have B5 := hid (tB B3.out hb)
  clear ho hb
  go_wp2_with fail
  go_ret2
  exact ⟨_, rfl, O5.out, B5.out⟩
theorem fdec8 (T : Nat -> Int) (kind salt sector : Int) (a : Option Addr) (n cap : Nat) (b : List Int) (w : World) (h : CrcT T w) (hr : Rd8 w a n cap b) (hp : possP kind salt sector) (h64 : salt < 9223372036854775808) :
    Calls prog 156 #[.int .i64 kind, .int .i64 salt, .int .i64 sector, .slice a n cap] w fun e w' => ∃ v, e = .returned (.tuple #[v, .bool (frameD (crcF T) kind salt sector b).isSome]) /\ Below w.heap.size w w' /\ ∀ p, frameD (crcF T) kind salt sector b = some p -> Own8 w.heap.size w' v p := by
  have H := hid h
  have HR := hid hr
  have HP := hid hp
  have hlb := hr.len
  by_cases hn : n = 64
  · subst hn
    obtain ⟨g, off, rfl, hg, _⟩ := hr.el 0 (by omega)
    have hcap := hr.cap_le
    have hc64 : 64 <= cap := hcap.1
    have h1 : Rd8 w (some ⟨g, off + 1, none⟩) 59 (cap - 1) ((b.drop 1).take 59) := by
      have h2 := (hr.take 60 (by omega) (fun e => by cases e)).drop 1 (by omega)
      rw [List.drop_take] at h2
      unfold lowA at h2
      rw [if_neg (by omega)] at h2
      exact h2
    have H1 := hid h1
    obtain ⟨p, hpe⟩ : ∃ p, (b.drop 1).take 59 = p := ⟨_, rfl⟩
    rw [hpe] at H1
    have hpl : p.length = 59 := by rw [<- hpe, List.length_take, List.length_drop, hlb]; decide
    have HD := hid (show frameD (crcF T) kind salt sector b = if frameE (crcF T) kind salt sector p = b then some p else none by
      unfold frameD
      rw [hpe]
      by_cases he : frameE (crcF T) kind salt sector p = b
      · rw [if_pos ⟨hlb, hp, he⟩, if_pos he]
      · rw [if_neg (fun h => he h.2.2), if_neg he])
    clear h hr hp h1 hcap hpe
    go_enter Tryz.func156, Tryz.ntmps156
    go_wp2_with fail
    with_reducible refine (clone8 _ 59 _ p _ H1.out (by omega)).mono ?_
    rintro e w1 ⟨v, rfl, ho, hb⟩
    obtain ⟨a1, c1, rfl, hr1⟩ := ho.rd
    rw [hpl] at hr1 ⊢
    have B1 := hid hb
    have R1 := hid hr1
    have O1 := hid ho
    have T1 := hid (H.out.below hb H.out.lt)
    clear hb hr1 ho
    go_wp2_with fail
    with_reducible refine (fenc8 T kind salt sector a1 59 c1 p _ T1.out R1.out HP.out (by omega) h64).mono ?_
    rintro e w2 ⟨v2, rfl, ho, hb⟩
    obtain ⟨a2, c2, rfl, hr2⟩ := ho.rd
    rw [frameE_length (crcF T) kind salt sector p (by omega)] at hr2 ⊢
    have B2 := hid (tB B1.out hb)
    have R2 := hid hr2
    have R3 := hid (HR.out.below B2.out (Nat.le_refl _))
    have O2 := hid (O1.out.below hb)
    clear hb hr2 ho
    go_wp2_with fail
    with_reducible refine (equal8 a2 _ 64 c2 64 cap _ b _ R2.out R3.out).mono ?_
    rintro e w3 ⟨rfl, rfl⟩
    by_cases he : frameE (crcF T) kind salt sector p = b
    · simp only [he, decide_true]
      go_wp2_with fail
      go_ret2
      rw [HD.out, if_pos he]
      exact ⟨_, rfl, B2.out, fun q hq => by cases hq; rw [<- hpl]; exact O2.out⟩
    · simp only [he, decide_false]
      go_wp2_with fail
      go_ret2
      rw [HD.out, if_neg he]
      exact ⟨_, rfl, B2.out, fun q hq => by cases hq⟩
  · have HD := hid (show frameD (crcF T) kind salt sector b = none by unfold frameD; rw [if_neg (fun h => hn (by omega))])
    have hn2 : ¬ (n : Int) = 64 := by omega
    clear h hr hp
    go_enter Tryz.func156, Tryz.ntmps156
    go_wp2_with fail
    go_ret2
    rw [HD.out]
    exact ⟨_, rfl, Below.refl _ _, fun q hq => by cases hq⟩
structure Lay where
  id : Int
  ver : Int
  rs : Int
  rg : Int
  deriving DecidableEq
def pow2B (n : Int) : Bool := n == 2 || n == 4 || n == 8 || n == 16 || n == 32 || n == 64 || n == 128 || n == 256 || n == 512 || n == 1024 || n == 2048
def formB (l : Lay) : Bool := decide (1 <= l.id /\ l.id <= 4294967295 /\ (l.ver = 1 \/ l.ver = 2) /\ pow2B l.rs = true /\ 4 <= l.rg /\ l.rg <= 16)
theorem pow2_and (n : Int) (h1 : 2 <= n) (h2 : n <= 2048) : (bits .and .i64 n (n - 1) == 0) = pow2B n := by
  have key : ∀ m : Fin 2049, 2 <= m.val -> (bits .and .i64 (m.val : Int) ((m.val : Int) - 1) == 0) = pow2B (m.val : Int) := by decide +kernel
  obtain ⟨m, rfl⟩ := Int.eq_ofNat_of_zero_le (show 0 <= n by omega)
  exact key ⟨m, by omega⟩ (by show 2 <= m; omega)
theorem pow2_rng {n : Int} (h : pow2B n = true) : 2 <= n /\ n <= 2048 := by
  simp only [pow2B, Bool.or_eq_true, beq_iff_eq] at h
  omega
theorem formB_iff (id ver rs rg : Int) : formB ⟨id, ver, rs, rg⟩ = true ↔
    (1 <= id /\ id <= 4294967295 /\ (ver = 1 \/ ver = 2) /\ 2 <= rs /\ rs <= 2048 /\ bits .and .i64 rs (rs - 1) = 0 /\ 4 <= rg /\ rg <= 16) := by
  unfold formB
  rw [decide_eq_true_eq]
  constructor
  · rintro ⟨a, b, c, d, e, f⟩
    obtain ⟨g, h⟩ := pow2_rng d
    have k := pow2_and rs g h
    rw [d, beq_iff_eq] at k
    exact ⟨a, b, c, g, h, k, e, f⟩
  · rintro ⟨a, b, c, g, h, k, e, f⟩
    refine ⟨a, b, c, ?_, e, f⟩
    rw [<- pow2_and rs g h, k]; rfl
theorem ret_bool {a b : Bool} (h : a = b) : Ending.returned (.bool a) = .returned (.bool b) := by rw [h]
theorem ret_int {k : IntKind} {a b : Int} (h : a = b) : Ending.returned (.int k a) = .returned (.int k b) := by rw [h]
theorem form20 (id ver rs rg : Int) (w : World) :
    Calls prog 106 #[.agg #[.int .i64 id, .int .i64 ver, .int .i64 rs, .int .i64 rg]] w fun e w' => e = .returned (.bool (formB ⟨id, ver, rs, rg⟩)) /\ Below w.heap.size w w' := by
  go_enter Tryz.func106, Tryz.ntmps106
  go_wp2
  all_goals
    go_ret
    refine ⟨ret_bool ?_, (Below.refl _ _).alloc (Nat.le_refl _) _⟩
    rw [Bool.eq_iff_iff, formB_iff]
    try simp only [decide_eq_true_eq, Bool.false_eq_true, false_iff]
    omega
def logD (n : Int) : Int := if n = 1 then 0 else if n = 2 then 1 else if n = 4 then 2 else if n = 8 then 3 else if n = 16 then 4 else if n = 32 then 5 else if n = 64 then 6 else if n = 128 then 7 else if n = 256 then 8 else if n = 512 then 9 else if n = 1024 then 10 else if n = 2048 then 11 else -1
theorem log19 (n : Int) (w : World) :
    Calls prog 243 #[.int .i64 n] w fun e w' => e = .returned (.int .i64 (logD n)) /\ w = w' := by
  go_enter Tryz.func243, Tryz.ntmps243
  go_wp2
  go_loop [2, 3] (fun s i => ∃ k : Nat, k <= 12 /\ i = .int .i64 k /\ ∀ j : Nat, j < k -> n ≠ 2 ^ j) (fun _ i => 12 - (intOf i).toNat)
  case atStart => exact ⟨0, Nat.zero_le _, rfl, fun j hj => by omega⟩
  case round =>
    obtain ⟨k, hk, rfl, hn⟩ := hrel
    have HN := hid hn
    clear hn
    by_cases hlt : k < 12
    · have hp : (0 : Int) < 2 ^ k /\ (2 : Int) ^ k <= 2048 := by
        refine ⟨Int.pow_pos (by omega), ?_⟩
        have : ∀ m : Fin 12, (2 : Int) ^ m.val <= 2048 := by decide
        exact this ⟨k, hlt⟩
      have hw : wrap64 (2 ^ k) = 2 ^ k := IntWalk.wrap64_in _ ⟨by omega, by omega⟩
      by_cases he : n = 2 ^ k
      · have h1 : (n == wrap64 (2 ^ k)) = true := by rw [hw, he]; simp
        have hl : logD n = k := by
          have : ∀ m : Fin 12, logD (2 ^ m.val) = (m.val : Int) := by decide +kernel
          rw [he]; exact this ⟨k, hlt⟩
        have HL := hid hl
        clear hp hw he hl
        go_wp2
        go_ret
        exact ⟨ret_int HL.out.symm, rfl⟩
      · have h1 : (n == wrap64 (2 ^ k)) = false := by rw [hw]; simpa using he
        have hn' : ∀ j : Nat, j < k + 1 -> n ≠ 2 ^ j := by
          intro j hj
          by_cases hjk : j = k
          · rw [hjk]; exact he
          · exact HN.out j (by omega)
        have HN' := hid hn'
        clear hp hw he hn' HN
        go_wp2
        go_round
        case rel => exact ⟨k + 1, by omega, by go_num, HN'.out⟩
        case measure => simp [intOf]; omega
    · obtain rfl : k = 12 := by omega
      have hl : logD n = -1 := by
        have hn := HN.out
        have a0 := hn 0 (by omega); have a1 := hn 1 (by omega); have a2 := hn 2 (by omega); have a3 := hn 3 (by omega); have a4 := hn 4 (by omega); have a5 := hn 5 (by omega)
        have a6 := hn 6 (by omega); have a7 := hn 7 (by omega); have a8 := hn 8 (by omega); have a9 := hn 9 (by omega); have a10 := hn 10 (by omega); have a11 := hn 11 (by omega)
        unfold logD
        simp only [show (2 : Int) ^ 0 = 1 from rfl, show (2 : Int) ^ 1 = 2 from rfl, show (2 : Int) ^ 2 = 4 from rfl, show (2 : Int) ^ 3 = 8 from rfl, show (2 : Int) ^ 4 = 16 from rfl, show (2 : Int) ^ 5 = 32 from rfl, show (2 : Int) ^ 6 = 64 from rfl, show (2 : Int) ^ 7 = 128 from rfl, show (2 : Int) ^ 8 = 256 from rfl, show (2 : Int) ^ 9 = 512 from rfl, show (2 : Int) ^ 10 = 1024 from rfl, show (2 : Int) ^ 11 = 2048 from rfl] at a0 a1 a2 a3 a4 a5 a6 a7 a8 a9 a10 a11
        rw [if_neg a0, if_neg a1, if_neg a2, if_neg a3, if_neg a4, if_neg a5, if_neg a6, if_neg a7, if_neg a8, if_neg a9, if_neg a10, if_neg a11]
      have HL := hid hl
      clear hl HN
      go_wp2
      go_ret
      exact ⟨ret_int HL.out.symm, rfl⟩
theorem pow2_log (n : Int) : pow2B n = true ↔ 1 <= logD n := by
  simp only [pow2B, Bool.or_eq_true, beq_iff_eq]
  unfold logD
  constructor
  · intro h
    rcases h with ((((((((((h | h) | h) | h) | h) | h) | h) | h) | h) | h) | h) <;> (subst h; decide)
  · intro h
    repeat' split at h
    all_goals omega
theorem formB_iff2 (id ver rs rg : Int) : formB ⟨id, ver, rs, rg⟩ = true ↔
    (1 <= id /\ id <= 4294967295 /\ (ver = 1 \/ ver = 2) /\ 1 <= logD rs /\ 4 <= rg /\ rg <= 16) := by
  unfold formB
  rw [decide_eq_true_eq, pow2_log]
theorem refform12 (id ver rs rg : Int) (w : World) :
    Calls prog 302 #[.agg #[.int .i64 id, .int .i64 ver, .int .i64 rs, .int .i64 rg]] w fun e w' => e = .returned (.bool (formB ⟨id, ver, rs, rg⟩)) /\ Below w.heap.size w w' := by
  have hl := hid (fun W => log19 rs W)
  have hk := hid (formB_iff2 id ver rs rg)
  generalize logD rs = L at *
  generalize formB ⟨id, ver, rs, rg⟩ = F at *
  go_enter Tryz.func302, Tryz.ntmps302
  go_wp2_with (go_at_call 243; with_reducible refine (hl.out _).mono ?_; rintro e w' ⟨rfl, rfl⟩)
  all_goals
    go_ret
    refine ⟨ret_bool ?_, (Below.refl _ _).alloc (Nat.le_refl _) _⟩
    rw [Bool.eq_iff_iff, hk.out]
    try simp only [decide_eq_true_eq, Bool.false_eq_true, false_iff]
    omega
end Go.Proofs.YtbikkioipamlmaaGreatDoor
namespace Go.Proofs.YtbikkioipamlmaaGreatDoor
def lay0 : Lay := ⟨0, 0, 0, 0⟩
def logE (n : Int) : Int := if n = 0 then 0 else logD n
def layE (l : Lay) : List Int := beN l.id 4 ++ [l.ver % 256, logE l.rs, l.rg % 256]
theorem layE_length (l : Lay) : (layE l).length = 7 := by simp [layE, bL]
theorem logE_rng {n : Int} (h : pow2B n = true \/ n = 0) : 0 <= logE n /\ logE n <= 11 /\ (n ≠ 0 -> 2 ^ (min (logE n) 30).toNat = n) := by
  rcases h with h | rfl
  · simp only [pow2B, Bool.or_eq_true, beq_iff_eq] at h
    rcases h with (((((((((h | h) | h) | h) | h) | h) | h) | h) | h) | h) | h <;> (subst h; decide)
  · decide
theorem formB_pow {l : Lay} (h : formB l = true) : 1 <= l.id /\ l.id <= 4294967295 /\ (l.ver = 1 \/ l.ver = 2) /\ pow2B l.rs = true /\ 4 <= l.rg /\ l.rg <= 16 := by
  unfold formB at h; exact of_decide_eq_true h
theorem layE_byte {l : Lay} (h : formB l = true \/ l = lay0) : Byte8 (layE l) := by
  refine (beN_byte _ _).app (.cons (Int.emod_nonneg _ (by omega)) (Int.emod_lt_of_pos _ (by omega)) (.cons ?_ ?_ (.cons (Int.emod_nonneg _ (by omega)) (Int.emod_lt_of_pos _ (by omega)) .nil)))
  · exact (logE_rng (h.imp (fun h => (formB_pow h).2.2.2.1) (fun h => by rw [h]; rfl))).1
  · have := (logE_rng (h.imp (fun h => (formB_pow h).2.2.2.1) (fun h => by rw [h]; rfl))).2.1
    omega
structure Sup where
  gen : Int
  phase : Int
  mig : Int
  tail : Int
  now : Int
  tgt : Lay
  home : Lay
  frn : List Lay
  deriving DecidableEq
def returningB (s : Sup) : Bool :=
  match s.frn with
  | [a, b] => decide (a = s.home) && formB b && decide (s.home.id ≠ b.id /\ s.home.id ≠ s.tgt.id /\ b.id ≠ s.tgt.id) && decide (s.tgt = { s.home with id := s.tgt.id })
  | _ => false
def phaseB (s : Sup) : Bool :=
  if s.phase = 1 then decide (s.home = lay0) && decide (s.frn.length = 0)
  else if s.phase = 2 then decide (0 < s.mig) && formB s.home && decide (s.frn = [s.home]) && decide (s.tgt.id ≠ s.home.id)
  else if s.phase = 3 then decide (0 < s.mig) && formB s.home && returningB s
  else false
def supB (s : Sup) : Bool := decide (1 <= s.gen /\ s.gen <= 1099511627775 /\ 0 <= s.mig /\ s.mig <= 4294967295 /\ 0 <= s.tail /\ s.tail <= 281474976710655 /\ 0 <= s.now /\ s.now <= 549755813888) && formB s.tgt && phaseB s
def supF (s : Sup) : List Int := match s.frn with | _ :: b :: _ => layE b | _ => []
def supP (s : Sup) : List Int := beN s.gen 5 ++ ([s.phase % 256] ++ (beN s.mig 4 ++ (beN s.tail 6 ++ (beN s.now 5 ++ (layE s.tgt ++ (layE s.home ++ ([(s.frn.length : Int) % 256] ++ supF s)))))))
def supE (T : SumF) (sector : Int) (s : Sup) : List Int := frameE T 3 0 sector (supP s)
theorem supB_parts {s : Sup} (h : supB s = true) : (1 <= s.gen /\ s.gen <= 1099511627775 /\ 0 <= s.mig /\ s.mig <= 4294967295 /\ 0 <= s.tail /\ s.tail <= 281474976710655 /\ 0 <= s.now /\ s.now <= 549755813888) /\ formB s.tgt = true /\ phaseB s = true := by
  unfold supB at h
  simp only [Bool.and_eq_true, decide_eq_true_eq] at h
  exact ⟨h.1.1, h.1.2, h.2⟩
theorem supF_length (s : Sup) : (supF s).length <= 7 := by
  unfold supF
  split
  · rw [layE_length]; exact Nat.le_refl _
  · simp
theorem supP_length (s : Sup) : (supP s).length <= 43 := by
  have := supF_length s
  simp only [supP, List.length_append, bL, layE_length, List.length_singleton]
  omega
theorem take_app {a b : List Int} {n : Nat} (h : a.length = n) : (a ++ b).take n = a := by rw [List.take_append_of_le_length (by omega), List.take_of_length_le (by omega)]
theorem drop_app {a b : List Int} {n : Nat} (h : a.length = n) : (a ++ b).drop n = b := by rw [List.drop_append_of_le_length (by omega), List.drop_of_length_le (by omega), List.nil_append]
theorem drop_sum {l r : List Int} {m n : Nat} {k : Nat} (h : l.drop m = r) (hk : k = m + n) : l.drop k = r.drop n := by rw [hk, <- List.drop_drop, h]
structure Hd where
  ver : Int
  slot : Int
  lay : Int
  seq : Int
  tail : Int
  now : Int
  deriving DecidableEq
def Hd.zero : Hd := ⟨0, 0, 0, 0, 0, 0⟩
def hdP (h : Hd) : Prop := (h.ver = 1 \/ h.ver = 2) /\ 0 <= h.slot /\ h.slot < 16 /\ 1 <= h.lay /\ h.lay <= 4294967295 /\ 1 <= h.seq /\ h.seq <= 281474976710655 /\ 0 <= h.tail /\ h.tail <= h.seq /\ 0 <= h.now /\ h.now <= 549755813888
instance (h : Hd) : Decidable (hdP h) := by unfold hdP; infer_instance
def hdB (h : Hd) : Bool := decide (hdP h)
def hdY (h : Hd) : List Int := [h.ver % 256] ++ ([h.slot % 256] ++ (beN h.lay 4 ++ (beN h.seq 6 ++ (beN h.tail 6 ++ beN h.now 5))))
def hdE (T : SumF) (sector : Int) (h : Hd) : List Int := frameE T 1 0 sector (hdY h)
def readHd (p : List Int) : Hd := ⟨beV (p.take 1), beV ((p.drop 1).take 1), beV ((p.drop 2).take 4), beV ((p.drop 6).take 6), beV ((p.drop 12).take 6), beV ((p.drop 18).take 5)⟩
def hdD (T : SumF) (sector : Int) (b : List Int) : Option Hd :=
  match frameD T 1 0 sector b with
  | none => none
  | some p => if hdB (readHd p) = true /\ hdE T sector (readHd p) = b then some (readHd p) else none
theorem hdY_length (h : Hd) : (hdY h).length = 23 := by simp [hdY, bL]
theorem readHd_Y {h : Hd} (hb : hdB h = true) (rest : List Int) : readHd (hdY h ++ rest) = h := by
  obtain ⟨v, s0, s1, l0, l1, q0, q1, t0, t1, n0, n1⟩ := of_decide_eq_true hb
  obtain ⟨p, hp⟩ : ∃ p, hdY h ++ rest = p := ⟨_, rfl⟩
  have e0 : p = [h.ver % 256] ++ ([h.slot % 256] ++ (beN h.lay 4 ++ (beN h.seq 6 ++ (beN h.tail 6 ++ (beN h.now 5 ++ rest))))) := by
    rw [<- hp]; simp only [hdY, List.append_assoc]
  have d1 := (congrArg (List.drop 1) e0).trans (drop_app (n := 1) rfl)
  have d2 := (drop_sum (k := 2) d1 rfl).trans (drop_app (n := 1) rfl)
  have d3 := (drop_sum (k := 6) d2 rfl).trans (drop_app (bL _ 4))
  have d4 := (drop_sum (k := 12) d3 rfl).trans (drop_app (bL _ 6))
  have d5 := (drop_sum (k := 18) d4 rfl).trans (drop_app (bL _ 6))
  have e5 := (congrArg (List.take 1) e0).trans (take_app (n := 1) rfl)
  rw [hp]
  have one : ∀ x : Int, beV [x] = x := fun x => by simp [beV]
  unfold readHd
  rw [d1, d2, d3, d4, d5, e5, take_app (n := 1) rfl, take_app (bL _ 4), take_app (bL _ 6), take_app (bL _ 6), take_app (bL _ 5), one, one,
    beV_self (by omega) (by omega), beV_self (by omega) (by omega), beV_self t0 (by omega), beV_self n0 (by omega)]
  obtain ⟨a, b, c, d, e, f⟩ := h
  simp only [Hd.mk.injEq, and_true] at *
  omega
theorem hdD_E {T : SumF} {h : Hd} {sector : Int} (hb : hdB h = true) (h0 : 0 <= sector) (h1 : sector < 1048576) : hdD T sector (hdE T sector h) = some h := by
  have hl := hdY_length h
  unfold hdD hdE
  rw [frameD_E (by omega) ⟨by omega, by omega, by omega, h0, h1⟩]
  simp only [readHd_Y hb]
  rw [if_pos ⟨hb, trivial⟩]
theorem hdD_zero (T : SumF) (sector : Int) (n : Nat) : hdD T sector (List.replicate n 0) = none := by unfold hdD; rw [frameD_zero]
end Go.Proofs.YtbikkioipamlmaaGreatDoor
