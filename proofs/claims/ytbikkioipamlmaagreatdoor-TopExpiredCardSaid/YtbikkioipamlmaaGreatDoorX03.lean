/-
  Laws and contracts for the statement TopExpired.
-/
import Derived.Test.YtbikkioipamlmaaGreatDoorX02
open Go.Lib (hid)
open Go.Proofs.Tryz (prog)
set_option linter.unusedVariables false
set_option linter.unusedSimpArgs false
set_option maxRecDepth 100000
set_option maxHeartbeats 20000000
namespace Go.Proofs.YtbikkioipamlmaaGreatDoor
open Go.RowKit
def Hd.vals (h : Hd) : List Value := [.int .i64 h.ver, .int .i64 h.slot, .int .i64 h.lay, .int .i64 h.seq, .int .i64 h.tail, .int .i64 h.now]
theorem hvalid8 (h : Hd) (w : World) : Calls prog 283 #[.agg ⟨h.vals⟩] w fun e w' => e = .returned (.bool (hdB h)) /\ Below w.heap.size w w' := by
  obtain ⟨a, b, c, d, x, f⟩ := h
  simp only [Hd.vals]
  go_enter Tryz.func283, Tryz.ntmps283
  go_wp2_with fail
  all_goals
    go_ret
    refine ⟨ret_bl ?_, (Below.refl _ _).alloc (Nat.le_refl _) _⟩
    rw [Bool.eq_iff_iff]
    unfold hdB
    simp only [decide_eq_true_eq, Bool.false_eq_true, false_iff]
    simp only [hdP]
    omega
theorem henc8 (T : Nat -> Int) (h : Hd) (sector : Int) (w : World) (hv : hdB h = true) (hT : CrcT T w) (h0 : 0 <= sector) (h1 : sector < 1048576) :
    Calls prog 266 #[.agg ⟨h.vals⟩, .int .i64 sector] w fun e w' => ∃ a c, e = .returned (.tuple #[.slice a 64 c, .int .i64 0]) /\ Own8 w.heap.size w' (.slice a 64 c) (hdE (crcF T) sector h) /\ Below w.heap.size w w' := by
  have HV := hid (fun W => hvalid8 h W)
  rw [hv] at HV
  obtain ⟨v0, s0, s1, l0, l1, q0, q1, t0, t1, n0, n1⟩ := of_decide_eq_true hv
  obtain ⟨a, b, c, d, x, f⟩ := h
  simp only [Hd.vals] at *
  have HT := hid hT
  clear hv hT
  go_enter Tryz.func266, Tryz.ntmps266
  go_wp2_with fail
  with_reducible refine (HV.out _).mono ?_
  rintro e w1 ⟨rfl, hb⟩
  have hws : w.heap.size < w1.heap.size := by have := hb.size; simp at this; omega
  have hk : ∀ j, w1.cell? ⟨w.heap.size, j, none⟩ = _ := fun j => ((bcell hb).1 w.heap.size j (by simp)).trans (qB (nB w _))
  have c0 := hk 0; have c1 := hk 1; have c2 := hk 2; have c3 := hk 3; have c4 := hk 4; have c5 := hk 5
  simp only [List.getElem?_toArray, List.getElem?_cons_zero, List.getElem?_cons_succ] at c0 c1 c2 c3 c4 c5
  have B1 := hid (bel1 hb)
  have hwa : IntKind.u8.wrap a = a % 256 := IntKind.wrap_u8 a
  have hwb : IntKind.u8.wrap b = b % 256 := IntKind.wrap_u8 b
  have hwc : IntKind.u64.wrap c = c := by simp [IntKind.wrap, IntKind.bits, IntKind.signed]; omega
  have hwd : IntKind.u64.wrap d = d := by simp [IntKind.wrap, IntKind.bits, IntKind.signed]; omega
  have hwx : IntKind.u64.wrap x = x := by simp [IntKind.wrap, IntKind.bits, IntKind.signed]; omega
  have hwf : IntKind.u64.wrap f = f := by simp [IntKind.wrap, IntKind.bits, IntKind.signed]; omega
  have KC := hid (show ∀ W, Below w1.heap.size w1 W -> (∀ j, W.cell? ⟨w.heap.size, j, none⟩ = w1.cell? ⟨w.heap.size, j, none⟩) from fun W hW j => (bcell hW).1 _ _ hws)
  clear hb hk
  go_wp2_with fail
  have R2 := hid (rd_lit (n := 2) (c := 2) (zs := [a % 256, b % 256]) (nB w1 (.cells #[.int .u8 (a % 256), .int .u8 (b % 256)] 5)) rfl rfl (Nat.le_refl _) (by unfold maxLen; omega) (.cons (by omega) (by omega) (.cons (by omega) (by omega) .nil)))
  have B2 := hid (show Below w1.heap.size w1 (w1.alloc (.cells #[.int .u8 (a % 256), .int .u8 (b % 256)] 5)) from (Below.refl _ _).alloc (Nat.le_refl _) _)
  with_reducible refine (put8z _ 2 2 _ c 4 4 6 _ R2.out (by omega) (by omega) (by omega) (by omega) (by omega) rfl rfl).mono ?_
  rintro e w3 ⟨a3, q3, rfl, _, hr3, hb3⟩
  have B3 := hid (tB B2.out hb3)
  have R3 := hid hr3
  have e3 := (KC.out _ B3.out 3).trans c3
  clear hr3 hb3
  go_wp2_with fail
  with_reducible refine (put8z a3 6 q3 _ d 6 6 12 _ R3.out (by omega) (by omega) (by omega) (by omega) (by omega) rfl rfl).mono ?_
  rintro e w4 ⟨a4, q4, rfl, _, hr4, hb4⟩
  have B4 := hid (tB B3.out hb4)
  have R4 := hid hr4
  have e4 := (KC.out _ B4.out 4).trans c4
  clear hr4 hb4 e3
  go_wp2_with fail
  with_reducible refine (put8z a4 12 q4 _ x 6 6 18 _ R4.out (by omega) (by omega) (by omega) (by omega) (by omega) rfl rfl).mono ?_
  rintro e w5 ⟨a5, q5, rfl, _, hr5, hb5⟩
  have B5 := hid (tB B4.out hb5)
  have R5 := hid hr5
  have e5 := (KC.out _ B5.out 5).trans c5
  clear hr5 hb5 e4
  go_wp2_with fail
  with_reducible refine (put8z a5 18 q5 _ f 5 5 23 _ R5.out (by omega) (by omega) (by omega) (by omega) (by omega) rfl rfl).mono ?_
  rintro e w6 ⟨a6, q6, rfl, _, hr6, hb6⟩
  have hy : ([a % 256, b % 256] ++ beN c 4 ++ beN d 6 ++ beN x 6 ++ beN f 5 : List Int) = hdY ⟨a, b, c, d, x, f⟩ := by simp [hdY]
  rw [hy] at hr6
  have B6 := hid (tB B1.out (tB B5.out hb6))
  have R6 := hid hr6
  have T6 := hid (HT.out.below B6.out HT.out.lt)
  clear hr6 hb6 e5 hy c0 c1 c2 c3 c4 c5
  go_wp2_with fail
  with_reducible refine (fenc8 T 1 0 sector a6 23 q6 _ _ T6.out R6.out (by unfold possP; omega) (by omega) (by omega)).mono ?_
  rintro e w9 ⟨v9, rfl, ho9, hb9⟩
  have hl9 := frameE_length (crcF T) 1 0 sector (hdY ⟨a, b, c, d, x, f⟩) (by rw [hdY_length]; omega)
  obtain ⟨a9, q9, rfl, _⟩ := ho9.rd
  rw [hl9] at ho9 ⊢
  have O9 := hid (ho9.mono (B' := w.heap.size) B6.out.size)
  have B9 := hid (tB B6.out hb9)
  clear ho9 hb9 hl9
  go_wp2_with fail
  go_ret2
  exact ⟨a9, q9, rfl, O9.out, B9.out⟩
theorem henc_no8 (h : Hd) (sector : Int) (w : World) (hv : hdB h = false) :
    Calls prog 266 #[.agg ⟨h.vals⟩, .int .i64 sector] w fun e w' => e = .returned (.tuple #[.slice none 0 0, .int .i64 4]) /\ Below w.heap.size w w' := by
  have HV := hid (fun W => hvalid8 h W)
  rw [hv] at HV
  obtain ⟨a, b, c, d, x, f⟩ := h
  simp only [Hd.vals] at *
  clear hv
  go_enter Tryz.func266, Tryz.ntmps266
  go_wp2_with fail
  with_reducible refine (HV.out _).mono ?_
  rintro e w1 ⟨rfl, hb⟩
  go_wp2_with fail
  go_ret2
  exact ⟨rfl, bel1 hb⟩
theorem hnum8m {G : Nat} (rb b : Nat) (bs : List Int) (m : Nat) (w : World) (hc : w.cell? ⟨rb, 0, none⟩ = some (.pointer (some ⟨b, 0, none⟩))) (h : Rdr w b G bs) (hm : m <= bs.length) (m1 : 1 <= m) (m7 : m <= 7) :
    Calls prog 265 #[.int .i64 (m : Int), .pointer (some ⟨rb, 0, none⟩)] w fun e w' => e = .returned (.int .i64 (beV (bs.take m))) /\ Rdr w' b G (bs.drop m) /\ Fr (fun j => j = b) w w' := by
  have H := hid h
  clear h
  go_enter Tryz.func265, Tryz.ntmps265
  go_wp2_with fail
  with_reducible refine (num8w b bs m _ H.out hm m1 (by omega)).mono ?_
  rintro e w1 ⟨rfl, hd, hf⟩
  obtain ⟨a, cap, _, hr, _⟩ := H.out
  obtain ⟨q0, q1⟩ := beV_rng (hr.byt.take m)
  have hq : beV (bs.take m) < 9223372036854775808 := by
    refine Int.lt_of_lt_of_le q1 ?_
    rw [List.length_take, Nat.min_eq_left hm]
    exact Int.le_trans (pow7 m m7) (by decide)
  have D1 := hid hd
  have F1 := hid hf
  clear hd hf hr q1
  obtain ⟨q, hqe⟩ : ∃ q, beV (bs.take m) = q := ⟨_, rfl⟩
  rw [hqe] at q0 hq ⊢
  have HQ := hid hqe
  clear hqe
  have hw : wrap64 q = q := by unfold wrap64; omega
  go_wp2_with fail
  go_ret
  rw [HQ.out]
  exact ⟨rfl, D1.out, F1.out⟩
theorem hnum8 {G : Nat} (rb b : Nat) (bs : List Int) (z : Int) (m : Nat) (w : World) (hc : w.cell? ⟨rb, 0, none⟩ = some (.pointer (some ⟨b, 0, none⟩))) (h : Rdr w b G bs) (hm : m <= bs.length) (m1 : 1 <= m) (m7 : m <= 7) (hz : z = (m : Int)) :
    Calls prog 265 #[.int .i64 z, .pointer (some ⟨rb, 0, none⟩)] w fun e w' => e = .returned (.int .i64 (beV (bs.take m))) /\ Rdr w' b G (bs.drop m) /\ Fr (fun j => j = b) w w' := by
  subst hz
  exact hnum8m rb b bs m w hc h hm m1 m7
theorem hdec8 (T : Nat -> Int) (a : Option Addr) (n cap : Nat) (bs : List Int) (sector : Int) (w : World) (h : CrcT T w) (hr : Rd8 w a n cap bs) (h0 : 0 <= sector) (h1 : sector < 1048576) :
    Calls prog 193 #[.slice a n cap, .int .i64 sector] w fun e w' => e = .returned (.tuple #[.agg ⟨((hdD (crcF T) sector bs).getD Hd.zero).vals⟩, .bool (hdD (crcF T) sector bs).isSome]) /\ Below w.heap.size w w' := by
  have H := hid h
  have HR := hid hr
  have FD := hid (fun (W : World) (hT : CrcT T W) (hR : Rd8 W a n cap bs) => fdec8 T 1 0 sector a n cap bs W hT hR (by unfold possP; omega) (by omega))
  clear h hr
  have hd : hdD (crcF T) sector bs = match frameD (crcF T) 1 0 sector bs with | none => none | some p => if hdB (readHd p) = true /\ hdE (crcF T) sector (readHd p) = bs then some (readHd p) else none := rfl
  cases hp : frameD (crcF T) 1 0 sector bs with
  | none =>
    rw [hp] at hd
    have HD := hid hd
    rw [hp] at FD
    clear hp hd
    go_enter Tryz.func193, Tryz.ntmps193
    go_wp2_with fail
    with_reducible refine (FD.out _ (H.out.below (B := w.heap.size) ((Below.refl _ _).alloc (Nat.le_refl _) _) H.out.lt) (HR.out.below (B := w.heap.size) ((Below.refl _ _).alloc (Nat.le_refl _) _) (Nat.le_refl _))).mono ?_
    rintro e w1 ⟨v, rfl, hb, _⟩
    simp only [Option.isSome_none]
    have hk : ∀ j, w1.frozen? ⟨w.heap.size, j, none⟩ = false := fun j => ((bcell hb).2 w.heap.size j (by simp)).trans (zB (nB w _))
    have f0 := hk 0; have f1 := hk 1; have f2 := hk 2; have f3 := hk 3; have f4 := hk 4; have f5 := hk 5
    have hc : ∀ j, w1.cell? ⟨w.heap.size, j, none⟩ = _ := fun j => ((bcell hb).1 w.heap.size j (by simp)).trans (qB (nB w _))
    have c0 := hc 0; have c1 := hc 1; have c2 := hc 2; have c3 := hc 3; have c4 := hc 4; have c5 := hc 5
    simp only [List.getElem?_toArray, List.getElem?_cons_zero, List.getElem?_cons_succ] at c0 c1 c2 c3 c4 c5
    have HK := hid ((hb.block w.heap.size (by simp)).trans (nB w _))
    clear hk hc
    have B1 := hid (bel1 hb)
    have HB := hid hb
    go_wp2_with fail
    (try simp only [Exit.inBlock, Exit.then])
    refine bodyPost_ret (results_cell2 rfl _ _ w.heap.size _ _ _ _ rfl (set6 HK.out _ _ _ _ _ _) Tryz.underlying66 rfl (by kernel_rfl)) rfl ?_
    rw [HD.out]
    exact ⟨rfl, sB (sB (sB (sB (sB (sB B1.out (Nat.le_refl _)) (Nat.le_refl _)) (Nat.le_refl _)) (Nat.le_refl _)) (Nat.le_refl _)) (Nat.le_refl _)⟩
  | some p =>
    rw [hp] at hd FD
    simp only at hd
    have HD := hid hd
    have hpl : p.length = 59 := (frameD_some hp).2.2.1
    have HL64 := hid (frameD_some hp).1
    clear hp hd
    go_enter Tryz.func193, Tryz.ntmps193
    go_wp2_with fail
    with_reducible refine (FD.out _ (H.out.below (B := w.heap.size) ((Below.refl _ _).alloc (Nat.le_refl _) _) H.out.lt) (HR.out.below (B := w.heap.size) ((Below.refl _ _).alloc (Nat.le_refl _) _) (Nat.le_refl _))).mono ?_
    rintro e w1 ⟨v, rfl, hb, ho⟩
    simp only [Option.isSome_some]
    obtain ⟨a1, q1, rfl, hr1⟩ := (ho p rfl).rd
    rw [hpl] at hr1 ⊢
    obtain ⟨w0, hw0⟩ : ∃ w0, w.alloc (.cells #[.int .i64 0, .int .i64 0, .int .i64 0, .int .i64 0, .int .i64 0, .int .i64 0] 66) = w0 := ⟨_, rfl⟩
    rw [hw0] at hb
    have R1 := hid hr1
    have B1 := hid hb
    have hsw : w.heap.size < w0.heap.size := by rw [<- hw0]; simp
    have HB0 := hid (show Below w.heap.size w w0 by rw [<- hw0]; exact (Below.refl _ _).alloc (Nat.le_refl _) _)
    have HK := hid (show w0.heap[w.heap.size]? = some (.cells #[.int .i64 0, .int .i64 0, .int .i64 0, .int .i64 0, .int .i64 0, .int .i64 0] 66 (0, 0)) by rw [<- hw0]; exact nB w _)
    clear hb ho hr1 hw0
    go_wp2_with fail
    with_reducible refine (newrd8 a1 59 q1 p _ R1.out (by omega) (by omega)).mono ?_
    rintro e w2 ⟨b, G, rfl, hrd, hbl, hbG, hGl, hb2⟩
    have hb3 : b < w2.heap.size := hrd.lt
    have hbb : w0.heap.size <= b := by have := B1.out.size; omega
    have HBB := hid (show ∀ (W W' : World), Below w0.heap.size w0 W -> Fr (fun j => j = b) W W' -> Below w0.heap.size w0 W' from fun W W' h hf => Fr.below h hf h.size (fun k hk => by rw [hk]; exact hbb))
    have B2 := hid (tB B1.out hb2)
    have B3 := hid (show Below w0.heap.size w0 (w2.alloc (.cells #[.pointer (some ⟨b, 0, none⟩)] 274)) from B2.out.alloc B2.out.size _)
    have RD0 := hid (hrd.below ((Below.refl _ _).alloc (Nat.le_refl _) (.cells #[.pointer (some ⟨b, 0, none⟩)] 274)))
    have k0 : (w2.alloc (.cells #[.pointer (some ⟨b, 0, none⟩)] 274)).cell? ⟨w2.heap.size, 0, none⟩ = some (.pointer (some ⟨b, 0, none⟩)) := qB (nB w2 _)
    have hkb : ¬ (w2.heap.size = b) := by omega
    have hs0 : w2.heap.size < (w2.alloc (.cells #[.pointer (some ⟨b, 0, none⟩)] 274)).heap.size := by simp
    have PL := hid hpl
    clear hrd hb2 hpl
    go_wp2_with fail
    with_reducible refine (hnum8 w2.heap.size b p 1 1 _ k0 RD0.out (by have := PL.out; simp; omega) (by omega) (by omega) rfl).mono ?_
    rintro e x1 ⟨rfl, hd1, hf1⟩
    have k1 := (hf1.keep (j := 0) hs0 hkb).trans k0
    have hs1 : w2.heap.size < x1.heap.size := Nat.lt_of_lt_of_le hs0 hf1.size
    have B4 := hid (HBB.out _ _ B3.out hf1)
    have RD1 := hid (show Rdr x1 b G (p.drop 1) by exact hd1)
    clear hd1 hf1 k0 hs0
    go_wp2_with fail
    with_reducible refine (hnum8 w2.heap.size b (p.drop 1) 1 1 _ k1 RD1.out (by have := PL.out; simp; omega) (by omega) (by omega) rfl).mono ?_
    rintro e x2 ⟨rfl, hd2, hf2⟩
    have k2 := (hf2.keep (j := 0) hs1 hkb).trans k1
    have hs2 : w2.heap.size < x2.heap.size := Nat.lt_of_lt_of_le hs1 hf2.size
    have B5 := hid (HBB.out _ _ B4.out hf2)
    have RD2 := hid (show Rdr x2 b G (p.drop 2) by have h9 := hd2; rw [List.drop_drop] at h9; exact h9)
    clear hd2 hf2 k1 hs1
    go_wp2_with fail
    with_reducible refine (hnum8 w2.heap.size b (p.drop 2) 4 4 _ k2 RD2.out (by have := PL.out; simp; omega) (by omega) (by omega) rfl).mono ?_
    rintro e x3 ⟨rfl, hd3, hf3⟩
    have k3 := (hf3.keep (j := 0) hs2 hkb).trans k2
    have hs3 : w2.heap.size < x3.heap.size := Nat.lt_of_lt_of_le hs2 hf3.size
    have B6 := hid (HBB.out _ _ B5.out hf3)
    have RD3 := hid (show Rdr x3 b G (p.drop 6) by have h9 := hd3; rw [List.drop_drop] at h9; exact h9)
    clear hd3 hf3 k2 hs2
    go_wp2_with fail
    with_reducible refine (hnum8 w2.heap.size b (p.drop 6) 6 6 _ k3 RD3.out (by have := PL.out; simp; omega) (by omega) (by omega) rfl).mono ?_
    rintro e x4 ⟨rfl, hd4, hf4⟩
    have k4 := (hf4.keep (j := 0) hs3 hkb).trans k3
    have hs4 : w2.heap.size < x4.heap.size := Nat.lt_of_lt_of_le hs3 hf4.size
    have B7 := hid (HBB.out _ _ B6.out hf4)
    have RD4 := hid (show Rdr x4 b G (p.drop 12) by have h9 := hd4; rw [List.drop_drop] at h9; exact h9)
    clear hd4 hf4 k3 hs3
    go_wp2_with fail
    with_reducible refine (hnum8 w2.heap.size b (p.drop 12) 6 6 _ k4 RD4.out (by have := PL.out; simp; omega) (by omega) (by omega) rfl).mono ?_
    rintro e x5 ⟨rfl, hd5, hf5⟩
    have k5 := (hf5.keep (j := 0) hs4 hkb).trans k4
    have hs5 : w2.heap.size < x5.heap.size := Nat.lt_of_lt_of_le hs4 hf5.size
    have B8 := hid (HBB.out _ _ B7.out hf5)
    have RD5 := hid (show Rdr x5 b G (p.drop 18) by have h9 := hd5; rw [List.drop_drop] at h9; exact h9)
    clear hd5 hf5 k4 hs4
    go_wp2_with fail
    with_reducible refine (hnum8 w2.heap.size b (p.drop 18) 5 5 _ k5 RD5.out (by have := PL.out; simp; omega) (by omega) (by omega) rfl).mono ?_
    rintro e x6 ⟨rfl, hd6, hf6⟩
    have k6 := (hf6.keep (j := 0) hs5 hkb).trans k5
    have hs6 : w2.heap.size < x6.heap.size := Nat.lt_of_lt_of_le hs5 hf6.size
    have B9 := hid (HBB.out _ _ B8.out hf6)
    have RD6 := hid (show Rdr x6 b G (p.drop 23) by have h9 := hd6; rw [List.drop_drop] at h9; exact h9)
    clear hd6 hf6 k5 hs5
    go_wp2_with fail
    rw [<- List.drop_one (l := p)]
    have B10 := hid (B9.out.alloc B9.out.size (.cells #[.int .i64 (beV (p.take 1)), .int .i64 (beV ((p.drop 1).take 1)), .int .i64 (beV ((p.drop 2).take 4)), .int .i64 (beV ((p.drop 6).take 6)), .int .i64 (beV ((p.drop 12).take 6)), .int .i64 (beV ((p.drop 18).take 5))] 66))
    have hsx : w0.heap.size <= x6.heap.size := B9.out.size
    have XB := hid (show ∀ W, Below w0.heap.size w0 W -> Below w.heap.size w W from fun W hW => HB0.out.trans (hW.mono (by omega)))
    have XK := hid (show ∀ W, Below w0.heap.size w0 W -> W.heap[w.heap.size]? = some (.cells #[.int .i64 0, .int .i64 0, .int .i64 0, .int .i64 0, .int .i64 0, .int .i64 0] 66 (0, 0)) from fun W hW => (hW.block _ hsw).trans HK.out)
    have XR := hid (show ∀ W, Below w0.heap.size w0 W -> Rd8 W a n cap bs from fun W hW => HR.out.below (XB.out W hW) (Nat.le_refl _))
    have XT := hid (show ∀ W, Below w0.heap.size w0 W -> CrcT T W from fun W hW => H.out.below (XB.out W hW) H.out.lt)
    have XF := hid (show ∀ W, Below w0.heap.size w0 W -> ∀ y0 y1 y2 y3 y4 y5 : Value, Below w.heap.size w ((((((W.setCell ⟨w.heap.size, 0, none⟩ y0).setCell ⟨w.heap.size, 1, none⟩ y1).setCell ⟨w.heap.size, 2, none⟩ y2).setCell ⟨w.heap.size, 3, none⟩ y3).setCell ⟨w.heap.size, 4, none⟩ y4).setCell ⟨w.heap.size, 5, none⟩ y5) from fun W hW y0 y1 y2 y3 y4 y5 =>
      sB (sB (sB (sB (sB (sB (XB.out W hW) (Nat.le_refl _)) (Nat.le_refl _)) (Nat.le_refl _)) (Nat.le_refl _)) (Nat.le_refl _)) (Nat.le_refl _))
    cases hv : hdB (readHd p) with
    | true =>
      have HE := fun (W : World) (hT : CrcT T W) => henc8 T (readHd p) sector W hv hT h0 h1
      simp only [Hd.vals, readHd] at HE
      with_reducible refine (HE _ (XT.out _ B10.out)).mono ?_
      rintro e x7 ⟨a7, q7, rfl, ho7, hb7⟩
      obtain ⟨E, hE⟩ : ∃ E, hdE (crcF T) sector (readHd p) = E := ⟨_, rfl⟩
      have hl7 : E.length = 64 := by rw [<- hE]; exact frameE_length _ _ _ _ _ (by rw [hdY_length]; omega)
      have ho8 : Own8 _ x7 (.slice a7 64 q7) (hdE (crcF T) sector (readHd p)) := ho7
      rw [hE] at ho8
      obtain ⟨aa, cc, he7, hr7⟩ := ho8.rd
      rw [hl7] at he7 hr7
      cases he7
      have B11 := hid (tB B10.out hb7)
      have R7 := hid hr7
      have K11 := hid (XK.out _ B11.out)
      have hxk : ∀ j, x7.cell? ⟨x6.heap.size, j, none⟩ = _ := fun j => ((bcell hb7).1 x6.heap.size j (by simp)).trans (qB (nB x6 _))
      have c0 := hxk 0; have c1 := hxk 1; have c2 := hxk 2; have c3 := hxk 3; have c4 := hxk 4; have c5 := hxk 5
      simp only [List.getElem?_toArray, List.getElem?_cons_zero, List.getElem?_cons_succ] at c0 c1 c2 c3 c4 c5
      have r0 := qB (i := 0) K11.out; have r1 := qB (i := 1) K11.out; have r2 := qB (i := 2) K11.out; have r3 := qB (i := 3) K11.out; have r4 := qB (i := 4) K11.out; have r5 := qB (i := 5) K11.out
      simp only [List.getElem?_toArray, List.getElem?_cons_zero, List.getElem?_cons_succ] at r0 r1 r2 r3 r4 r5
      have f0 := zB (i := 0) K11.out; have f1 := zB (i := 1) K11.out; have f2 := zB (i := 2) K11.out; have f3 := zB (i := 3) K11.out; have f4 := zB (i := 4) K11.out; have f5 := zB (i := 5) K11.out
      have HEE := hid hE
      have HV := hid hv
      clear ho7 hb7 ho8 hr7 hE hl7 hv HE hxk
      go_wp2_with fail
      with_reducible refine (equal8 a7 a 64 q7 n cap E bs _ R7.out (XR.out _ B11.out)).mono ?_
      rintro e x8 ⟨rfl, rfl⟩
      by_cases hq : E = bs
      · simp only [hq, decide_true]
        go_wp2_with fail
        (try simp only [Exit.inBlock, Exit.then])
        refine bodyPost_ret (results_cell2 rfl _ _ w.heap.size _ _ _ _ rfl (set6 K11.out _ _ _ _ _ _) Tryz.underlying66 rfl (by kernel_rfl)) rfl ?_
        rw [HD.out, HEE.out, if_pos ⟨HV.out, hq⟩, <- List.drop_one (l := p)]
        exact ⟨rfl, XF.out _ B11.out _ _ _ _ _ _⟩
      · simp only [hq, decide_false]
        go_wp2_with fail
        (try simp only [Exit.inBlock, Exit.then])
        refine bodyPost_ret (results_cell2 rfl _ _ w.heap.size _ _ _ _ rfl (set6 K11.out _ _ _ _ _ _) Tryz.underlying66 rfl (by kernel_rfl)) rfl ?_
        rw [HD.out, HEE.out, if_neg (fun h => hq h.2)]
        exact ⟨rfl, XF.out _ B11.out _ _ _ _ _ _⟩
    | false =>
      have HE := fun (W : World) => henc_no8 (readHd p) sector W hv
      simp only [Hd.vals, readHd] at HE
      with_reducible refine (HE _).mono ?_
      rintro e x7 ⟨rfl, hb7⟩
      have B11 := hid (tB B10.out hb7)
      have K11 := hid (XK.out _ B11.out)
      have r0 := qB (i := 0) K11.out; have r1 := qB (i := 1) K11.out; have r2 := qB (i := 2) K11.out; have r3 := qB (i := 3) K11.out; have r4 := qB (i := 4) K11.out; have r5 := qB (i := 5) K11.out
      simp only [List.getElem?_toArray, List.getElem?_cons_zero, List.getElem?_cons_succ] at r0 r1 r2 r3 r4 r5
      have f0 := zB (i := 0) K11.out; have f1 := zB (i := 1) K11.out; have f2 := zB (i := 2) K11.out; have f3 := zB (i := 3) K11.out; have f4 := zB (i := 4) K11.out; have f5 := zB (i := 5) K11.out
      have HV := hid hv
      clear hb7 hv HE
      go_wp2_with fail
      (try simp only [Exit.inBlock, Exit.then])
      refine bodyPost_ret (results_cell2 rfl _ _ w.heap.size _ _ _ _ rfl (set6 K11.out _ _ _ _ _ _) Tryz.underlying66 rfl (by kernel_rfl)) rfl ?_
      rw [HD.out, HV.out, if_neg (fun h => by cases h.1)]
      exact ⟨rfl, XF.out _ B11.out _ _ _ _ _ _⟩
end Go.Proofs.YtbikkioipamlmaaGreatDoor
