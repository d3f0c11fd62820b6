/-
  Laws and contracts for the statement TopExpired.
-/
import Derived.Deep.DeepCutAuto
import Derived.Test.YtbikkioipamlmaaGreatDoorX07
open Go.Lib (hid)
open Go.Proofs.Tryz (prog)
set_option linter.unusedVariables false
set_option linter.unusedSimpArgs false
set_option maxRecDepth 100000
set_option maxHeartbeats 20000000
namespace Go.Proofs.YtbikkioipamlmaaGreatDoor
open Go.RowKit
def Sup.vals (s : Sup) (f : Value) : List Value := [.int .i64 s.gen, .int .i64 s.phase, .int .i64 s.mig, .int .i64 s.tail, .int .i64 s.now, .int .i64 s.tgt.id, .int .i64 s.tgt.ver, .int .i64 s.tgt.rs, .int .i64 s.tgt.rg, .int .i64 s.home.id, .int .i64 s.home.ver, .int .i64 s.home.rs, .int .i64 s.home.rg, f]
def Stab (s : Sup) : Prop := s.phase = 1 /\ s.home = lay0 /\ s.frn = []
theorem phase8 (g m t n : Int) (l : Lay) (w : World) :
    Calls prog 294 #[.agg ⟨Sup.vals ⟨g, 1, m, t, n, l, lay0, []⟩ (.slice none 0 0)⟩] w fun e w' => e = .returned (.bool true) /\ Below w.heap.size w w' := by
  obtain ⟨a, b, c, d⟩ := l
  simp only [Sup.vals, lay0]
  go_enter Tryz.func294, Tryz.ntmps294
  go_wp2_with fail
  go_ret
  exact ⟨rfl, (Below.refl _ _).alloc (Nat.le_refl _) _⟩
theorem svalid8 (s : Sup) (w : World) (h : Stab s) (hv : supB s = true) :
    Calls prog 231 #[.agg ⟨Sup.vals s (.slice none 0 0)⟩] w fun e w' => e = .returned (.bool true) /\ Below w.heap.size w w' := by
  obtain ⟨⟨g0, g1, m0, m1, t0, t1, n0, n1⟩, hf, _⟩ := supB_parts hv
  obtain ⟨g, p, m, t, n, l, hm, fr⟩ := s
  obtain ⟨rfl, rfl, rfl⟩ := h
  have PH := hid (phase8 g m t n l)
  obtain ⟨a, b, c, d⟩ := l
  simp only [Sup.vals, lay0] at *
  have FB := hid (fun W => form20 a b c d W)
  rw [hf] at FB
  have hd1 := FB
  clear hv hf
  go_enter Tryz.func231, Tryz.ntmps231
  go_wp2_with fail
  with_reducible refine (FB.out _).mono ?_
  rintro e w1 ⟨rfl, hb⟩
  have hc0 := (bcell hb).1
  have hk : ∀ j, w1.cell? ⟨w.heap.size, j, none⟩ = _ := fun j => (hc0 w.heap.size j (by simp)).trans (qB (nB w _))
  have B1 := hid (bel1 hb)
  have c0 := hk 0; have c1 := hk 1; have c2 := hk 2; have c3 := hk 3; have c4 := hk 4; have c5 := hk 5; have c6 := hk 6; have c7 := hk 7; have c8 := hk 8; have c9 := hk 9; have c10 := hk 10; have c11 := hk 11; have c12 := hk 12; have c13 := hk 13
  simp only [List.getElem?_toArray, List.getElem?_cons_zero, List.getElem?_cons_succ] at c0 c1 c2 c3 c4 c5 c6 c7 c8 c9 c10 c11 c12 c13
  clear hb hc0 hk
  go_wp2_with fail
  with_reducible refine (PH.out _).mono ?_
  rintro e w2 ⟨rfl, hb⟩
  have B2 := hid (tB B1.out hb)
  clear hb
  go_wp2_with fail
  go_ret
  exact ⟨rfl, B2.out⟩
abbrev KS (B : Nat) (a b c d : Int) (W : World) : Prop := W.cell? ⟨B, 5, none⟩ = some (.int .i64 a) /\ W.cell? ⟨B, 6, none⟩ = some (.int .i64 b) /\ W.cell? ⟨B, 7, none⟩ = some (.int .i64 c) /\ W.cell? ⟨B, 8, none⟩ = some (.int .i64 d) /\ W.cell? ⟨B, 9, none⟩ = some (.int .i64 0) /\ W.cell? ⟨B, 10, none⟩ = some (.int .i64 0) /\ W.cell? ⟨B, 11, none⟩ = some (.int .i64 0) /\ W.cell? ⟨B, 12, none⟩ = some (.int .i64 0) /\ W.cell? ⟨B, 13, none⟩ = some (.slice none 0 0)
theorem lit_keep {w w' : World} {b : Nat} {o : Obj} (h : w.heap[b]? = some o) (hb : Below w.heap.size w w') : w'.heap[b]? = some o := (hb.block b (lB h)).trans h
theorem senc8 (T : Nat -> Int) (s : Sup) (sector : Int) (w : World) (h : Stab s) (hv : supB s = true) (hT : CrcT T w) (h0 : 0 <= sector) (h1 : sector < 1048576) :
    Calls prog 161 #[.agg ⟨Sup.vals s (.slice none 0 0)⟩, .int .i64 sector] w fun e w' => ∃ a c, e = .returned (.tuple #[.slice a 64 c, .int .i64 0]) /\ Own8 w.heap.size w' (.slice a 64 c) (supE (crcF T) sector s) /\ Below w.heap.size w w' := by
  obtain ⟨⟨g0, g1, m0, m1, t0, t1, n0, n1⟩, hf, _⟩ := supB_parts hv
  obtain ⟨g, p, m, t, n, l, hm, fr⟩ := s
  have SV := hid (fun W => svalid8 _ W h hv)
  obtain ⟨rfl, rfl, rfl⟩ := h
  have HT := hid hT
  have HF := hid hf
  obtain ⟨a, b, c, d⟩ := l
  simp only [Sup.vals, lay0] at *
  clear hv hf hT
  go_enter Tryz.func161, Tryz.ntmps161
  go_wp2_with fail
  with_reducible refine (SV.out _).mono ?_
  rintro e w1 ⟨rfl, hb⟩
  have hc0 := (bcell hb).1
  have hk : ∀ j, w1.cell? ⟨w.heap.size, j, none⟩ = _ := fun j => (hc0 w.heap.size j (by simp)).trans (qB (nB w _))
  have B1 := hid (bel1 hb)
  have hws : w.heap.size < w1.heap.size := by have := hb.size; simp at this; omega
  have c0 := hk 0; have c1 := hk 1; have c2 := hk 2; have c3 := hk 3; have c4 := hk 4; have c5 := hk 5; have c6 := hk 6; have c7 := hk 7; have c8 := hk 8; have c9 := hk 9; have c10 := hk 10; have c11 := hk 11; have c12 := hk 12; have c13 := hk 13
  simp only [List.getElem?_toArray, List.getElem?_cons_zero, List.getElem?_cons_succ] at c0 c1 c2 c3 c4 c5 c6 c7 c8 c9 c10 c11 c12 c13
  have hwg : IntKind.u64.wrap g = g := by simp [IntKind.wrap, IntKind.bits, IntKind.signed]; omega
  clear hb hc0 hk
  go_upto_region 3 with fail
  have hw81 : IntKind.u8.wrap 1 = 1 := by rw [IntKind.wrap_u8]; rfl
  have KB := hid (show ∀ W, Below w1.heap.size w1 W -> W.cell? ⟨w.heap.size, 0, none⟩ = some (.int .i64 g) /\ W.cell? ⟨w.heap.size, 1, none⟩ = some (.int .i64 1) from fun W hW => ⟨((bcell hW).1 _ _ hws).trans c0, ((bcell hW).1 _ _ hws).trans c1⟩)
  obtain ⟨x0, hi, hz0, hz1, hz2⟩ := info_parts u8info
  have I1 := hid hi; have I2 := hid hz0; have I3 := hid hz1; have I4 := hid hz2
  clear hi hz0 hz1 hz2
  have KA := hid (show ∀ o : Obj, (w1.alloc o).cell? ⟨w.heap.size, 0, none⟩ = some (.int .i64 g) /\ (w1.alloc o).cell? ⟨w.heap.size, 1, none⟩ = some (.int .i64 1) from fun o => KB.out _ ((Below.refl _ _).alloc (Nat.le_refl _) _))
  have HLE := hid (show ∀ o : Obj, w1.heap.size <= (w1.alloc o).heap.size from fun o => by simp)
  have PG := hid (fun W => put8z none 0 0 [] g 5 5 5 W (.nilv _) (by omega) (by omega) (by omega) (by omega) (by omega) rfl rfl)
  go_cut [6] (fun v6 wx => ∃ a6 c6, v6 = .slice a6 6 c6 /\ Own8 w1.heap.size wx (.slice a6 6 c6) (beN g 5 ++ [1]) /\ Below w1.heap.size w1 wx)
  case first =>
    go_region_held3 (fun w' => w'.cell? ⟨w.heap.size, 0, none⟩ = some (.int .i64 g) /\ w'.cell? ⟨w.heap.size, 1, none⟩ = some (.int .i64 1)) (first | exact ⟨c0, c1⟩ | exact hS | exact KB.out _ hb1.out | exact KB.out _ (hb1.out.alloc hb1.out.size _) | exact KA.out _)
      (first
        | ((go_at_call 232); (with_reducible refine (PG.out _).mono ?_); (rintro e wP ⟨aP, cP, rfl, hoP, hrP, hbP⟩); (first | ((have hb1 := hid (bidd (w := w1) hbP)); (have hoW := Own8w hoP.own (Nat.le_refl w1.heap.size))) | ((obtain ⟨hbX, hlit⟩ := bel1d (w := w1) hbP); (have hb1 := hid hbX); (have hoW := Own8w hoP.own (HLE.out _)))))
        | ((with_reducible apply step_app (hgd := rfl) (t := 33) (base := w1.heap.size) (e := 5) (i := x0) (z := .int .u8 0) (size := 1) (bytes := 1) (v := .slice aP 5 cP) (n := 5) (xs := u8s ([] ++ beN g 5)) (m := 1) (news := [.int .u8 1]) (ht := Tryz.underlying33) (hi := I1.out) (hz := I2.out) (hsize := I3.out) (hby := I4.out) (hzs := rfl)); (case ho => exact rfl); (case hs => exact rfl); (case hx => exact rfl); (case hsz => decide); (case hown => exact hoW.alloc _); (case hsrc => exact src_lit (e := 5) (g := wP.heap.size) (m := 1) (c := 1) #[.int .u8 1] (0, 0) (nB wP _) rfl); (case h1 => exact ints_one .u8 [_]); (case h63 => decide); (case hbytes => decide); (case hbase => exact (hb1.out.alloc hb1.out.size _).size); (intro v2 w2 hown2 hgrow2); (have hb2 := hid (bel_app hb1.out hoW hgrow2)); (have hS := KB.out _ hb2.out); (obtain ⟨a2, cap2, rfl⟩ := ownsRow_slice hown2))
        | ((with_reducible apply step_app (hgd := rfl) (t := 33) (base := w1.heap.size) (e := 5) (i := x0) (z := .int .u8 0) (size := 1) (bytes := 1) (v := .slice aP 5 cP) (n := 5) (xs := u8s ([] ++ beN g 5)) (m := 1) (news := [.int .u8 1]) (ht := Tryz.underlying33) (hi := I1.out) (hz := I2.out) (hsize := I3.out) (hby := I4.out) (hzs := rfl)); (case ho => exact rfl); (case hs => exact rfl); (case hx => exact rfl); (case hsz => decide); (case hown => exact hoW); (case hsrc => exact src_lit (e := 5) (g := w1.heap.size) (m := 1) (c := 1) #[.int .u8 1] (0, 0) hlit rfl); (case h1 => exact ints_one .u8 [_]); (case h63 => decide); (case hbytes => decide); (case hbase => exact hb1.out.size); (intro v2 w2 hown2 hgrow2); (have hb2 := hid (bel_grow hb1.out hoW hgrow2)); (have hS := KB.out _ hb2.out); (obtain ⟨a2, cap2, rfl⟩ := ownsRow_slice hown2)))
    all_goals
      go_wp2_with fail
      go_meet
      exact ⟨a2, cap2, rfl, Own8.of (b := [1]) hown2 (by simp [bL]) (beN_byte _ _) (.cons (by omega) (by omega) .nil), hb2.out⟩
  case rest =>
    obtain ⟨a6, q6, rfl, ho6, hb6⟩ := hcut
    obtain ⟨aa, cc, he, hr6⟩ := ho6.rd
    rw [show (beN g 5 ++ [1] : List Int).length = 6 by simp [bL]] at he hr6
    cases he
    have R6 := hid hr6
    have B6 := hid hb6
    have KC := hid (show ∀ W, Below w1.heap.size w1 W -> (∀ j, W.cell? ⟨w.heap.size, j, none⟩ = w1.cell? ⟨w.heap.size, j, none⟩) from fun W hW j => (bcell hW).1 _ _ hws)
    have hwm : IntKind.u64.wrap m = m := by simp [IntKind.wrap, IntKind.bits, IntKind.signed]; omega
    have hwt : IntKind.u64.wrap t = t := by simp [IntKind.wrap, IntKind.bits, IntKind.signed]; omega
    have hwn : IntKind.u64.wrap n = n := by simp [IntKind.wrap, IntKind.bits, IntKind.signed]; omega
    have e2 := (KC.out _ B6.out 2).trans c2
    clear ho6 hb6 hr6
    go_wp2_with fail
    with_reducible refine (put8z a6 6 q6 _ m 4 4 10 _ R6.out (by omega) m0 (by omega) (by omega) (by omega) rfl rfl).mono ?_
    rintro e w3 ⟨a3, q3, rfl, _, hr3, hb3⟩
    have B3 := hid (tB B6.out hb3)
    have R3 := hid hr3
    have e3 := (KC.out _ B3.out 3).trans c3
    clear hr3 hb3 e2
    go_wp2_with fail
    with_reducible refine (put8z a3 10 q3 _ t 6 6 16 _ R3.out (by omega) t0 (by omega) (by omega) (by omega) rfl rfl).mono ?_
    rintro e w4 ⟨a4, q4, rfl, _, hr4, hb4⟩
    have B4 := hid (tB B3.out hb4)
    have R4 := hid hr4
    have e4 := (KC.out _ B4.out 4).trans c4
    clear hr4 hb4 e3
    go_wp2_with fail
    with_reducible refine (put8z a4 16 q4 _ n 5 5 21 _ R4.out (by omega) n0 (by omega) (by omega) (by omega) rfl rfl).mono ?_
    rintro e w5 ⟨a5, q5, rfl, ho5, _, hb5⟩
    have B5 := hid (tB B4.out hb5)
    have O5 := hid (ho5.mono (B' := w1.heap.size) B4.out.size)
    have hw5 : w.heap.size < w5.heap.size := by have := B5.out.size; omega
    have f5 := (KC.out _ B5.out 5).trans c5; have f6 := (KC.out _ B5.out 6).trans c6; have f7 := (KC.out _ B5.out 7).trans c7; have f8 := (KC.out _ B5.out 8).trans c8
    have f9 := (KC.out _ B5.out 9).trans c9; have f10 := (KC.out _ B5.out 10).trans c10; have f11 := (KC.out _ B5.out 11).trans c11; have f12 := (KC.out _ B5.out 12).trans c12; have f13 := (KC.out _ B5.out 13).trans c13
    clear c0 c1 c2 c3 c4 c5 c6 c7 c8 c9 c10 c11 c12 c13 ho5 hb5 e4
    have KB2 := hid (show ∀ W, Below w5.heap.size w5 W -> KS w.heap.size a b c d W from fun W hW => ⟨((bcell hW).1 _ _ hw5).trans f5, ((bcell hW).1 _ _ hw5).trans f6, ((bcell hW).1 _ _ hw5).trans f7, ((bcell hW).1 _ _ hw5).trans f8, ((bcell hW).1 _ _ hw5).trans f9, ((bcell hW).1 _ _ hw5).trans f10, ((bcell hW).1 _ _ hw5).trans f11, ((bcell hW).1 _ _ hw5).trans f12, ((bcell hW).1 _ _ hw5).trans f13⟩)
    have hl21 : (beN g 5 ++ [1] ++ beN m 4 ++ beN t 6 ++ beN n 5).length = 21 := by simp [bL]
    have hl28 : (beN g 5 ++ [1] ++ beN m 4 ++ beN t 6 ++ beN n 5 ++ layE ⟨a, b, c, d⟩).length = 28 := by rw [List.length_append, hl21, layE_length]
    have L1 := hid (fun (W : World) (h : Own8 w1.heap.size W (.slice a5 21 q5) (beN g 5 ++ [1] ++ beN m 4 ++ beN t 6 ++ beN n 5)) => layout8z _ _ 21 28 _ ⟨a, b, c, d⟩ W h hl21 (by omega) (.inl HF.out) rfl)
    have L2 := hid (fun (W : World) (x : Option Addr) (y : Nat) (h : Own8 w5.heap.size W (.slice x 28 y) (beN g 5 ++ [1] ++ beN m 4 ++ beN t 6 ++ beN n 5 ++ layE ⟨a, b, c, d⟩)) => layout8z _ _ 28 35 _ ⟨0, 0, 0, 0⟩ W h hl28 (by omega) (.inr rfl) rfl)
    have HLD := hid (show w5.heap.size <= w5.drew.heap.size from Nat.le_refl _)
    have HLA := hid (show ∀ o : Obj, w5.heap.size <= (w5.alloc o).drew.heap.size from fun o => by show _ <= (w5.alloc o).heap.size; simp)
    have HLB := hid (show ∀ (W : World) (o : Obj), W.heap.size <= (W.alloc o).heap.size from fun W o => by simp)
    have hw80 : IntKind.u8.wrap 0 = 0 := by rw [IntKind.wrap_u8]; rfl
    simp only at L1 L2
    clear hl21 hl28
    have KB0 := hid (KB2.out _ (Below.refl _ w5).drew)
    have KA2 := hid (show ∀ o : Obj, KS w.heap.size a b c d (w5.alloc o) from fun o => KB2.out _ ((Below.refl _ _).alloc (Nat.le_refl _) _))
    go_upto_region 7 with fail
    go_cut [6] (fun v6 wx => ∃ a6 c6, v6 = .slice a6 36 c6 /\ Own8 w5.heap.size wx (.slice a6 36 c6) (beN g 5 ++ [1] ++ beN m 4 ++ beN t 6 ++ beN n 5 ++ layE ⟨a, b, c, d⟩ ++ layE ⟨0, 0, 0, 0⟩ ++ [0]) /\ Below w5.heap.size w5 wx)
    case first =>
      go_region_held3 (fun w' => w'.cell? ⟨w.heap.size, 5, none⟩ = some (.int .i64 a) /\ w'.cell? ⟨w.heap.size, 6, none⟩ = some (.int .i64 b) /\ w'.cell? ⟨w.heap.size, 7, none⟩ = some (.int .i64 c) /\ w'.cell? ⟨w.heap.size, 8, none⟩ = some (.int .i64 d) /\ w'.cell? ⟨w.heap.size, 9, none⟩ = some (.int .i64 0) /\ w'.cell? ⟨w.heap.size, 10, none⟩ = some (.int .i64 0) /\ w'.cell? ⟨w.heap.size, 11, none⟩ = some (.int .i64 0) /\ w'.cell? ⟨w.heap.size, 12, none⟩ = some (.int .i64 0) /\ w'.cell? ⟨w.heap.size, 13, none⟩ = some (.slice none 0 0)) (first | exact KB0.out | exact hS3 | exact KB2.out _ hb2.out | exact KB2.out _ hb1.out | exact KB2.out _ (hb2.out.alloc hb2.out.size _) | exact KB2.out _ (hb1.out.alloc hb1.out.size _) | exact KA2.out _)
      (first
        | ((go_at_call 233); (with_reducible refine (L1.out _ (O5.out.drew)).mono ?_); (rintro e wA ⟨aA, cA, rfl, hoA, hbA⟩); (have hb1 := hid (bidd (w := w5) hbA)); (have hoW := hoA.mono HLD.out))
        | ((go_at_call 233); (with_reducible refine (L1.out _ (O5.out.allocd _)).mono ?_); (rintro e wA ⟨aA, cA, rfl, hoA, hbA⟩); (obtain ⟨hbX, hlit⟩ := bel1d (w := w5) hbA); (have hb1 := hid hbX); (have hoW := hoA.mono (HLA.out _)))
        | ((go_at_call 233); (with_reducible refine (L2.out _ _ _ hoW).mono ?_); (rintro e wB ⟨aB, cB, rfl, hoB, hbB⟩); (have hb2 := hid (tB hb1.out hbB)); (have hoX := hoB.mono hb1.out.size))
        | ((go_at_call 233); (with_reducible refine (L2.out _ _ _ (hoW.alloc _)).mono ?_); (rintro e wB ⟨aB, cB, rfl, hoB, hbB⟩); (obtain ⟨hbY, hlit2⟩ := bel1x hbB); (have hb2 := hid (tB hb1.out hbY)); (have hoX := hoB.mono (Nat.le_trans hb1.out.size (HLB.out _ _))))
        | ((with_reducible apply step_app (hgd := rfl) (t := 33) (base := w5.heap.size) (e := 5) (i := x0) (z := .int .u8 0) (size := 1) (bytes := 1) (v := .slice aB 35 cB) (n := 35) (xs := u8s (((beN g 5 ++ [1] ++ beN m 4 ++ beN t 6 ++ beN n 5) ++ layE ⟨a, b, c, d⟩) ++ layE ⟨0, 0, 0, 0⟩)) (m := 1) (news := [.int .u8 0]) (ht := Tryz.underlying33) (hi := I1.out) (hz := I2.out) (hsize := I3.out) (hby := I4.out) (hzs := rfl)); (case ho => exact rfl); (case hs => exact rfl); (case hx => exact rfl); (case hsz => decide); (case hown => exact hoX.own.alloc _); (case hsrc => exact src_lit (e := 5) (g := wB.heap.size) (m := 1) (c := 1) #[.int .u8 0] (0, 0) (nB wB _) rfl); (case h1 => exact ints_one .u8 [_]); (case h63 => decide); (case hbytes => decide); (case hbase => exact (hb2.out.alloc hb2.out.size _).size); (intro v2 w2 hown2 hgrow2); (have hb3 := hid (bel_app hb2.out hoX.own hgrow2)); (have hS3 := KB2.out _ hb3.out); (obtain ⟨a2, cap2, rfl⟩ := ownsRow_slice hown2))
        | ((with_reducible apply step_app (hgd := rfl) (t := 33) (base := w5.heap.size) (e := 5) (i := x0) (z := .int .u8 0) (size := 1) (bytes := 1) (v := .slice aB 35 cB) (n := 35) (xs := u8s (((beN g 5 ++ [1] ++ beN m 4 ++ beN t 6 ++ beN n 5) ++ layE ⟨a, b, c, d⟩) ++ layE ⟨0, 0, 0, 0⟩)) (m := 1) (news := [.int .u8 0]) (ht := Tryz.underlying33) (hi := I1.out) (hz := I2.out) (hsize := I3.out) (hby := I4.out) (hzs := rfl)); (case ho => exact rfl); (case hs => exact rfl); (case hx => exact rfl); (case hsz => decide); (case hown => exact hoX.own); (case hsrc => exact src_lit (e := 5) (g := wA.heap.size) (m := 1) (c := 1) #[.int .u8 0] (0, 0) hlit2 rfl); (case h1 => exact ints_one .u8 [_]); (case h63 => decide); (case hbytes => decide); (case hbase => exact hb2.out.size); (intro v2 w2 hown2 hgrow2); (have hb3 := hid (bel_grow hb2.out hoX.own hgrow2)); (have hS3 := KB2.out _ hb3.out); (obtain ⟨a2, cap2, rfl⟩ := ownsRow_slice hown2))
        | ((with_reducible apply step_app (hgd := rfl) (t := 33) (base := w5.heap.size) (e := 5) (i := x0) (z := .int .u8 0) (size := 1) (bytes := 1) (v := .slice aB 35 cB) (n := 35) (xs := u8s (((beN g 5 ++ [1] ++ beN m 4 ++ beN t 6 ++ beN n 5) ++ layE ⟨a, b, c, d⟩) ++ layE ⟨0, 0, 0, 0⟩)) (m := 1) (news := [.int .u8 0]) (ht := Tryz.underlying33) (hi := I1.out) (hz := I2.out) (hsize := I3.out) (hby := I4.out) (hzs := rfl)); (case ho => exact rfl); (case hs => exact rfl); (case hx => exact rfl); (case hsz => decide); (case hown => exact hoX.own); (case hsrc => exact src_lit (e := 5) (g := w5.heap.size) (m := 1) (c := 1) #[.int .u8 0] (0, 0) (lit_keep hlit hbB) rfl); (case h1 => exact ints_one .u8 [_]); (case h63 => decide); (case hbytes => decide); (case hbase => exact hb2.out.size); (intro v2 w2 hown2 hgrow2); (have hb3 := hid (bel_grow hb2.out hoX.own hgrow2)); (have hS3 := KB2.out _ hb3.out); (obtain ⟨a2, cap2, rfl⟩ := ownsRow_slice hown2)))
      all_goals
        go_wp2_with fail
        go_meet
        exact ⟨a2, cap2, rfl, Own8.of (b := [0]) hown2 (by simp [bL, layE_length]) ((((((beN_byte _ _).app (.cons (by omega) (by omega) .nil)).app (beN_byte _ _)).app (beN_byte _ _)).app (beN_byte _ _)).app (layE_byte (.inl HF.out)) |>.app (layE_byte (.inr rfl))) (.cons (by omega) (by omega) .nil), hb3.out⟩
    case rest =>
      obtain ⟨a6, q6, rfl, ho6, hb6⟩ := hcut
      have hl36 : (beN g 5 ++ [1] ++ beN m 4 ++ beN t 6 ++ beN n 5 ++ layE ⟨a, b, c, d⟩ ++ layE ⟨0, 0, 0, 0⟩ ++ [0] : List Int) = supP ⟨g, 1, m, t, n, ⟨a, b, c, d⟩, ⟨0, 0, 0, 0⟩, []⟩ := by
        simp [supP, supF]
      rw [hl36] at ho6
      obtain ⟨aa, cc, he, hr6⟩ := ho6.rd
      have hln : (supP ⟨g, 1, m, t, n, ⟨a, b, c, d⟩, ⟨0, 0, 0, 0⟩, []⟩).length = 36 := by
        rw [<- hl36]; simp [bL, layE_length]
      rw [hln] at he hr6
      cases he
      have R6 := hid hr6
      have g13 := (KB2.out _ hb6).2.2.2.2.2.2.2.2
      have B6 := hid (tB (tB B1.out B5.out) hb6)
      have T6 := hid (HT.out.below B6.out HT.out.lt)
      clear ho6 hb6 hr6 hl36 hln f5 f6 f7 f8 f9 f10 f11 f12 f13
      go_wp2_with fail
      with_reducible refine (fenc8 T 3 0 sector a6 36 q6 _ _ T6.out R6.out (by unfold possP; omega) (by omega) (by omega)).mono ?_
      rintro e w9 ⟨v9, rfl, ho9, hb9⟩
      have hl9 := frameE_length (crcF T) 3 0 sector (supP ⟨g, 1, m, t, n, ⟨a, b, c, d⟩, ⟨0, 0, 0, 0⟩, []⟩) (by have := supP_length ⟨g, 1, m, t, n, ⟨a, b, c, d⟩, ⟨0, 0, 0, 0⟩, []⟩; omega)
      obtain ⟨a9, q9, rfl, _⟩ := ho9.rd
      rw [hl9] at ho9 ⊢
      have O9 := hid (ho9.mono (B' := w.heap.size) B6.out.size)
      have B9 := hid (tB B6.out hb9)
      clear ho9 hb9 hl9
      go_wp2_with fail
      go_ret2
      exact ⟨a9, q9, rfl, O9.out, B9.out⟩
end Go.Proofs.YtbikkioipamlmaaGreatDoor
