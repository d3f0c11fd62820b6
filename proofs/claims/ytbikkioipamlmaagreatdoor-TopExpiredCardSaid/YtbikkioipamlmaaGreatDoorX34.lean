/-
  Laws and contracts for the statement TopExpired.
-/
import Derived.Test.YtbikkioipamlmaaGreatDoorX33
open Go.Lib (hid)
open Go.Proofs.Tryz (prog)
set_option linter.unusedVariables false
set_option linter.unusedSimpArgs false
set_option maxRecDepth 100000
set_option maxHeartbeats 20000000
namespace Go.Proofs.YtbikkioipamlmaaGreatDoor
open Go.RowKit
theorem rd_app {w : World} {B n m k : Nat} {v : Value} {bs cs : List Int} {us : List Value} (ho : w.ownsRow B 5 1 v (n + m) (u8s bs ++ us)) (hb : bs.length = n) (hu : us = u8s cs) (hc : cs.length = m) (h1 : Byte8 bs) (h2 : Byte8 cs) (hk : k = n + m) : ∃ a c, v = .slice a k c /\ Own8 B w (.slice a k c) (bs ++ cs) /\ Rd8 w a k c (bs ++ cs) := by
  subst hk hu hb hc
  have h := Own8.app ho rfl h1 h2
  obtain ⟨a, c, rfl, hr⟩ := h.rd
  rw [List.length_append] at hr h ⊢
  exact ⟨a, c, rfl, h, hr⟩
theorem one8 : Byte8 [1] := .cons (by omega) (by omega) .nil
theorem zero8 : Byte8 [0] := .cons (by omega) (by omega) .nil
theorem bel1n {w w' : World} {o : Obj} (h : Below (w.alloc o).heap.size (w.alloc o) w') : w'.heap[w.heap.size]? = some o := (h.block _ (by simp)).trans (nB w o)
theorem bel1nd {w w' : World} {o : Obj} (h : Below (w.alloc o).drew.heap.size (w.alloc o).drew w') : w'.heap[w.heap.size]? = some o := (h.block _ (by show w.heap.size < (w.alloc o).heap.size; simp)).trans (nB w o)
theorem own_of8 {w : World} {B B' n : Nat} {v : Value} {bs : List Int} (h : Own8 B' w v bs) (hB : B <= B') (hl : bs.length = n) : w.ownsRow B 5 1 v n (u8s bs) := by
  subst hl
  exact (h.mono hB).own
def supA (l : Lay) : List Int := ((((beN 1 5 ++ [1]) ++ beN 0 4) ++ beN 1 6) ++ beN 0 5)
theorem supA_P (l : Lay) : (((supA l ++ layE l) ++ layE lay0) ++ [0]) = supP (sup0 l) := by
  unfold supA supP sup0
  simp only [List.append_assoc]
  rfl
theorem rsenc8 (l : Lay) (sector : Int) (w : World) (hl : formB l = true) (t0 : 0 <= sector) (t1 : sector < 1048576) :
    Calls prog 100 #[.agg #[.int .i64 1, .int .i64 1, .int .i64 0, .int .i64 1, .int .i64 0, .int .i64 l.id, .int .i64 l.ver, .int .i64 l.rs, .int .i64 l.rg, .int .i64 0, .int .i64 0, .int .i64 0, .int .i64 0, .slice none 0 0], .int .i64 sector] w (Ret8 w (supE rF sector (sup0 l))) := by
  obtain ⟨i0, hi, hz0, hz1, hz2⟩ := info_parts u8info
  have I1 := hid hi; have I2 := hid hz0; have I3 := hid hz1; have I4 := hid hz2
  obtain ⟨w0, hw0⟩ : ∃ w0, w.alloc (.cells #[.int .i64 1, .int .i64 1, .int .i64 0, .int .i64 1, .int .i64 0, .int .i64 l.id, .int .i64 l.ver, .int .i64 l.rs, .int .i64 l.rg, .int .i64 0, .int .i64 0, .int .i64 0, .int .i64 0, .slice none 0 0] 58) = w0 := ⟨_, rfl⟩
  have B0 := hid (show Below w.heap.size w w0 by rw [<- hw0]; exact (Below.refl _ _).alloc (Nat.le_refl _) _)
  have HX := hid (show w0.heap[w.heap.size]? = some (.cells #[.int .i64 1, .int .i64 1, .int .i64 0, .int .i64 1, .int .i64 0, .int .i64 l.id, .int .i64 l.ver, .int .i64 l.rs, .int .i64 l.rg, .int .i64 0, .int .i64 0, .int .i64 0, .int .i64 0, .slice none 0 0] 58 (0, 0)) by rw [<- hw0]; exact nB _ _)
  have b0 := qB (i := 0) HX.out
  have KX := hid (show ∀ W, Fr (fun j => w0.heap.size <= j) w0 W -> (W.cell? ⟨w.heap.size, 1, none⟩ = some (.int .i64 1) /\ W.cell? ⟨w.heap.size, 2, none⟩ = some (.int .i64 0) /\ W.cell? ⟨w.heap.size, 3, none⟩ = some (.int .i64 1) /\ W.cell? ⟨w.heap.size, 4, none⟩ = some (.int .i64 0)) /\ (W.cell? ⟨w.heap.size, 5, none⟩ = some (.int .i64 l.id) /\ W.cell? ⟨w.heap.size, 6, none⟩ = some (.int .i64 l.ver) /\ W.cell? ⟨w.heap.size, 7, none⟩ = some (.int .i64 l.rs) /\ W.cell? ⟨w.heap.size, 8, none⟩ = some (.int .i64 l.rg)) /\ (W.cell? ⟨w.heap.size, 9, none⟩ = some (.int .i64 0) /\ W.cell? ⟨w.heap.size, 10, none⟩ = some (.int .i64 0) /\ W.cell? ⟨w.heap.size, 11, none⟩ = some (.int .i64 0) /\ W.cell? ⟨w.heap.size, 12, none⟩ = some (.int .i64 0)) /\ W.cell? ⟨w.heap.size, 13, none⟩ = some (.slice none 0 0) from fun W hW =>
    have e := (hW.block w.heap.size (lB HX.out) (by have := lB HX.out; omega)).trans HX.out
    ⟨⟨qB e, qB e, qB e, qB e⟩, ⟨qB e, qB e, qB e, qB e⟩, ⟨qB e, qB e, qB e, qB e⟩, qB e⟩)
  have PU := hid (fun (a : Option Addr) (n cap : Nat) (bs : List Int) (x z : Int) (wd m : Nat) (W : World) (h : Rd8 W a n cap bs) (hn : n <= 1000) (x0 : 0 <= x) (x1 : x <= 1) (w1 : 1 <= wd) (w8 : wd <= 8) (hz : z = (wd : Int)) (hm : m = n + wd) => rput8z a n cap bs x z wd m W h (by omega) x0 (by omega) w1 w8 hz hm)
  have FRg := hid (show ∀ (W1 : World) (o : Obj) (W : World) (v : Value) (n : Nat) (xs : List Value), Fr (fun j => w0.heap.size <= j) w0 W1 -> W1.ownsRow w0.heap.size 5 1 v n xs -> ((W1.alloc o).drew).grownBy W v.ownBlock -> Fr (fun j => w0.heap.size <= j) w0 W from fun W1 o W v n xs hf ho hg => (hf.alloc o).trans ⟨hg.os, hg.tape, hg.output, hg.size, fun k hk hn => hg.block k hk (fun e => hn ((ho.lt k e.symm).1))⟩ (fun j hj => .inl hj))
  have P1 := hid (PU.out none 0 0 [] 1 5 5 5 w0 (Rd8.nilv _) (by omega) (by omega) (by omega) (by omega) (by omega) rfl rfl)
  have HL := hid hl
  clear hi hz0 hz1 hz2 hl
  go_enter Tryz.func100, Tryz.ntmps100
  go_wp2_with fail
  (try rw [hw0])
  clear hw0 b0
  with_reducible refine P1.out.mono ?_
  rintro e w1 ⟨a1, c1, rfl, ho1, hr1, hb1⟩
  rw [List.nil_append] at ho1 hr1
  have O1 := hid (show w1.ownsRow w0.heap.size 5 1 (.slice a1 5 c1) 5 (u8s (beN 1 5)) from by
    have h1 := ho1.own
    rw [hr1.len] at h1
    exact h1)
  have F1 := hid (show Fr (fun j => w0.heap.size <= j) w0 w1 from Fr.of_below hb1)
  have KD := hid (KX.out w1.drew F1.out.drew)
  have KA := hid (fun (o : Obj) => KX.out _ ((F1.out.alloc o).drew))
  have s1 := hid (show w0.heap.size <= w1.heap.size from F1.out.size)
  clear ho1 hr1 hb1 P1
  have z0 : IntKind.u64.wrap 0 = 0 := rfl
  have z1 : IntKind.u64.wrap 1 = 1 := rfl
  have z2 : IntKind.u8.wrap 0 = 0 := rfl
  have z3 : IntKind.u8.wrap 1 = 1 := rfl
  go_upto_region 2 with fail
  go_region_held3 (fun w' => (w'.cell? ⟨w.heap.size, 1, none⟩ = some (.int .i64 1) /\ w'.cell? ⟨w.heap.size, 2, none⟩ = some (.int .i64 0) /\ w'.cell? ⟨w.heap.size, 3, none⟩ = some (.int .i64 1) /\ w'.cell? ⟨w.heap.size, 4, none⟩ = some (.int .i64 0)) /\ (w'.cell? ⟨w.heap.size, 5, none⟩ = some (.int .i64 l.id) /\ w'.cell? ⟨w.heap.size, 6, none⟩ = some (.int .i64 l.ver) /\ w'.cell? ⟨w.heap.size, 7, none⟩ = some (.int .i64 l.rs) /\ w'.cell? ⟨w.heap.size, 8, none⟩ = some (.int .i64 l.rg)) /\ (w'.cell? ⟨w.heap.size, 9, none⟩ = some (.int .i64 0) /\ w'.cell? ⟨w.heap.size, 10, none⟩ = some (.int .i64 0) /\ w'.cell? ⟨w.heap.size, 11, none⟩ = some (.int .i64 0) /\ w'.cell? ⟨w.heap.size, 12, none⟩ = some (.int .i64 0)) /\ w'.cell? ⟨w.heap.size, 13, none⟩ = some (.slice none 0 0)) (first | with_reducible exact hS3 | with_reducible exact hS2 | with_reducible exact KD.out | with_reducible exact KA.out _)
    (first
      | ((go_at_call 171); (with_reducible refine (PU.out a2 6 c2 _ 0 4 4 10 _ hR2 (by decide) (by decide) (by decide) (by decide) (by decide) rfl rfl).mono ?_); (rintro e x3 ⟨a3, c3, rfl, ho3, hr3, hb3⟩); (have hF3 := hF2.trans (Fr.of_below (S := fun j => w0.heap.size <= j) hb3) (fun j hj => .inl hj)); (have hS3 := KX.out _ hF3))
      | ((with_reducible apply step_app (hgd := rfl) (t := 33) (base := w0.heap.size) (e := 5) (i := i0) (z := .int .u8 0) (size := 1) (bytes := 1) (v := .slice a1 5 c1) (n := 5) (xs := u8s (beN 1 5)) (m := 1) (news := [.int .u8 1]) (ht := Tryz.underlying33) (hi := I1.out) (hz := I2.out) (hsize := I3.out) (hby := I4.out) (hzs := rfl)); (case ho => exact rfl); (case hs => exact rfl); (case hx => exact rfl); (case hsz => decide); (case hown => exact (O1.out.alloc _).drew); (case hsrc => exact src_lit #[.int .u8 1] (0, 0) (nB w1 _) rfl); (case h1 => exact ints_one .u8 [_]); (case h63 => decide); (case hbytes => decide); (case hbase => exact Nat.le_trans s1.out (Nat.le_of_lt (by simp))); (intro v2 w2 ho2 hg2); (have hF2 := FRg.out _ _ _ _ _ _ F1.out O1.out hg2); (have hS2 := KX.out _ hF2); (obtain ⟨a2, c2, rfl, hO2, hR2⟩ := rd_app (cs := [1]) (k := 6) ho2 (bL _ _) rfl rfl (beN_byte _ _) one8 rfl)))
  have hR3 := hid hr3
  have F3 := hid hF3
  have KD3 := hid (KX.out x3.drew F3.out.drew)
  have R3d := hid (hr3.below (Below.refl _ _).drew (Nat.le_refl _))
  clear hr3 ho3 hb3 hF3 hS3 hO2 hR2 hF2 hS2 ho2 hg2
  go_upto_region 3 with fail
  go_region_held3 (fun w' => (w'.cell? ⟨w.heap.size, 1, none⟩ = some (.int .i64 1) /\ w'.cell? ⟨w.heap.size, 2, none⟩ = some (.int .i64 0) /\ w'.cell? ⟨w.heap.size, 3, none⟩ = some (.int .i64 1) /\ w'.cell? ⟨w.heap.size, 4, none⟩ = some (.int .i64 0)) /\ (w'.cell? ⟨w.heap.size, 5, none⟩ = some (.int .i64 l.id) /\ w'.cell? ⟨w.heap.size, 6, none⟩ = some (.int .i64 l.ver) /\ w'.cell? ⟨w.heap.size, 7, none⟩ = some (.int .i64 l.rs) /\ w'.cell? ⟨w.heap.size, 8, none⟩ = some (.int .i64 l.rg)) /\ (w'.cell? ⟨w.heap.size, 9, none⟩ = some (.int .i64 0) /\ w'.cell? ⟨w.heap.size, 10, none⟩ = some (.int .i64 0) /\ w'.cell? ⟨w.heap.size, 11, none⟩ = some (.int .i64 0) /\ w'.cell? ⟨w.heap.size, 12, none⟩ = some (.int .i64 0)) /\ w'.cell? ⟨w.heap.size, 13, none⟩ = some (.slice none 0 0)) (first | with_reducible exact hS5 | with_reducible exact hS4 | with_reducible exact KD3.out)
    (first
      | ((go_at_call 171); (with_reducible refine (PU.out a4 16 c4 _ 0 5 5 21 _ hr4 (by decide) (by decide) (by decide) (by decide) (by decide) rfl rfl).mono ?_); (rintro e x5 ⟨a5, c5, rfl, ho5, hr5, hb5⟩); (have hF5 := hF4.trans (Fr.of_below (S := fun j => w0.heap.size <= j) hb5) (fun j hj => .inl hj)); (have hS5 := KX.out _ hF5))
      | ((go_at_call 171); (with_reducible refine (PU.out a3 10 c3 _ 1 6 6 16 _ R3d.out (by decide) (by decide) (by decide) (by decide) (by decide) rfl rfl).mono ?_); (rintro e x4 ⟨a4, c4, rfl, ho4, hr4, hb4⟩); (have hF4 := F3.out.drew.trans (Fr.of_below (S := fun j => w0.heap.size <= j) hb4) (fun j hj => .inl hj)); (have hS4 := KX.out _ hF4)))
  have F5 := hid hF5
  have R5 := hid (show Rd8 x5 a5 21 c5 (supA l) from hr5)
  have R5d := hid (R5.out.below (Below.refl _ _).drew (Nat.le_refl _))
  have R5a := hid (fun (o : Obj) => R5.out.below (((Below.refl x5.heap.size x5).alloc (Nat.le_refl _) o).drew) (Nat.le_refl _))
  have KD5 := hid (KX.out x5.drew F5.out.drew)
  have KA5 := hid (fun (o : Obj) => KX.out _ ((F5.out.alloc o).drew))
  have FA5 := hid (fun (o : Obj) => (F5.out.alloc o).drew)
  have NA5 := hid (fun (o : Obj) => (show (x5.alloc o).drew.heap[x5.heap.size]? = some o from nB x5 o))
  clear hr5 ho5 hb5 hF5 hS5 hr4 ho4 hb4 hF4 hS4 KD3 R3d
  have PT := hid (fun (a : Option Addr) (n m cap : Nat) (bs : List Int) (W : World) (h : Rd8 W a n cap bs) (hn : n <= 1000) (hm : m = n + 7) => rsput8 l a n m cap bs W h hn (.inl HL.out) hm)
  have PZ := hid (show ∀ (a : Option Addr) (n m cap : Nat) (bs : List Int) (W : World) (h : Rd8 W a n cap bs) (hn : n <= 1000) (hm : m = n + 7), Calls prog 175 #[.slice a n cap, .agg #[.int .i64 0, .int .i64 0, .int .i64 0, .int .i64 0]] W fun e w' => ∃ a' c', e = .returned (.slice a' m c') /\ Own8 W.heap.size w' (.slice a' m c') (bs ++ layE lay0) /\ Rd8 w' a' m c' (bs ++ layE lay0) /\ Below W.heap.size W w' from fun a n m cap bs W h hn hm => rsput8 lay0 a n m cap bs W h hn (.inr rfl) hm)
  have FRh := hid (show ∀ (W1 : World) (W : World) (v : Value) (n : Nat) (xs : List Value), Fr (fun j => w0.heap.size <= j) w0 W1 -> W1.ownsRow w0.heap.size 5 1 v n xs -> W1.grownBy W v.ownBlock -> Fr (fun j => w0.heap.size <= j) w0 W from fun W1 W v n xs hf ho hg => hf.trans ⟨hg.os, hg.tape, hg.output, hg.size, fun k hk hn => hg.block k hk (fun e => hn ((ho.lt k e.symm).1))⟩ (fun j hj => .inl hj))
  have fin := hid (supA_P l)
  have hl35 : ((supA l ++ layE l) ++ layE lay0).length = 35 := by simp [supA, bL, layE_length]
  have HL35 := hid hl35
  have HB35 := hid (show Byte8 ((supA l ++ layE l) ++ layE lay0) from (((((((beN_byte _ _).app one8).app (beN_byte _ _)).app (beN_byte _ _)).app (beN_byte _ _)).app (layE_byte (.inl HL.out))).app (layE_byte (.inr rfl))))
  clear hl35
  go_upto_region 4 with fail
  go_cut [5] (fun v5 wx => ∃ a c, v5 = .slice a 36 c /\ Rd8 wx a 36 c (supP (sup0 l)) /\ Fr (fun j => w0.heap.size <= j) w0 wx)
  case first =>
    go_region_held3 (fun w' => (w'.cell? ⟨w.heap.size, 1, none⟩ = some (.int .i64 1) /\ w'.cell? ⟨w.heap.size, 2, none⟩ = some (.int .i64 0) /\ w'.cell? ⟨w.heap.size, 3, none⟩ = some (.int .i64 1) /\ w'.cell? ⟨w.heap.size, 4, none⟩ = some (.int .i64 0)) /\ (w'.cell? ⟨w.heap.size, 5, none⟩ = some (.int .i64 l.id) /\ w'.cell? ⟨w.heap.size, 6, none⟩ = some (.int .i64 l.ver) /\ w'.cell? ⟨w.heap.size, 7, none⟩ = some (.int .i64 l.rs) /\ w'.cell? ⟨w.heap.size, 8, none⟩ = some (.int .i64 l.rg)) /\ (w'.cell? ⟨w.heap.size, 9, none⟩ = some (.int .i64 0) /\ w'.cell? ⟨w.heap.size, 10, none⟩ = some (.int .i64 0) /\ w'.cell? ⟨w.heap.size, 11, none⟩ = some (.int .i64 0) /\ w'.cell? ⟨w.heap.size, 12, none⟩ = some (.int .i64 0)) /\ w'.cell? ⟨w.heap.size, 13, none⟩ = some (.slice none 0 0)) (first | with_reducible exact hS8 | with_reducible exact hS7a _ | with_reducible exact hS7 | with_reducible exact hS6a _ | with_reducible exact hS6 | with_reducible exact KD5.out | with_reducible exact KA5.out _)
      (first
        | ((go_at_call 175); (first
            | ((with_reducible refine (PZ.out a6 28 35 c6 _ _ hr6 (by decide) rfl).mono ?_); (rintro e x7 ⟨a7, c7, rfl, ho7, hr7, hb7⟩); (have hF7 := hF6.trans (Fr.of_below (S := fun j => w0.heap.size <= j) hb7) (fun j hj => .inl hj)); (have hS7 := KX.out _ hF7); (have hF7a := fun (o : Obj) => hF7.alloc o); (have hS7a := fun (o : Obj) => KX.out _ (hF7a o)); (have hO7 := own_of8 ho7 hF6.size HL35.out))
            | ((with_reducible refine (PZ.out a6 28 35 c6 _ _ (hr6a _) (by decide) rfl).mono ?_); (rintro e x7 ⟨a7, c7, rfl, ho7, hr7, hb7⟩); (have hF7 := (hF6a _).trans (Fr.of_below (S := fun j => w0.heap.size <= j) hb7) (fun j hj => .inl hj)); (have hS7 := KX.out _ hF7); (have hZ7 := bel1n hb7); (have hO7 := own_of8 ho7 (hF6a _).size HL35.out))
            | ((with_reducible refine (PT.out a5 21 28 c5 _ _ R5d.out (by decide) rfl).mono ?_); (rintro e x6 ⟨a6, c6, rfl, ho6, hr6, hb6⟩); (have hF6 := F5.out.drew.trans (Fr.of_below (S := fun j => w0.heap.size <= j) hb6) (fun j hj => .inl hj)); (have hS6 := KX.out _ hF6); (have hF6a := fun (o : Obj) => hF6.alloc o); (have hS6a := fun (o : Obj) => KX.out _ (hF6a o)); (have hr6a := fun (o : Obj) => hr6.below ((Below.refl x6.heap.size x6).alloc (Nat.le_refl _) o) (Nat.le_refl _)))
            | ((with_reducible refine (PT.out a5 21 28 c5 _ _ (R5a.out _) (by decide) rfl).mono ?_); (rintro e x6 ⟨a6, c6, rfl, ho6, hr6, hb6⟩); (have hF6 := (FA5.out _).trans (Fr.of_below (S := fun j => w0.heap.size <= j) hb6) (fun j hj => .inl hj)); (have hS6 := KX.out _ hF6); (have hZ6 := bel1nd hb6))))
        | ((with_reducible apply step_app (hgd := rfl) (t := 33) (base := w0.heap.size) (e := 5) (i := i0) (z := .int .u8 0) (size := 1) (bytes := 1) (v := .slice a7 35 c7) (n := 35) (xs := u8s ((supA l ++ layE l) ++ layE lay0)) (m := 1) (news := [.int .u8 0]) (ht := Tryz.underlying33) (hi := I1.out) (hz := I2.out) (hsize := I3.out) (hby := I4.out) (hzs := rfl)); (case ho => exact rfl); (case hs => exact rfl); (case hx => exact rfl); (case hsz => decide); (case hown => first | exact hO7 | exact hO7.alloc _); (case hsrc => first | exact src_lit #[.int .u8 0] (0, 0) hZ7 rfl | exact src_lit #[.int .u8 0] (0, 0) ((hb7.block _ (lB hZ6)).trans hZ6) rfl | exact src_lit #[.int .u8 0] (0, 0) (nB _ _) rfl); (case h1 => exact ints_one .u8 [_]); (case h63 => decide); (case hbytes => decide); (case hbase => first | exact hF7.size | exact (hF7a _).size); (intro v8 w8 ho8 hg8); (first | (have hF8 := FRh.out _ _ _ _ _ hF7 hO7 hg8) | (have hF8 := FRh.out _ _ _ _ _ (hF7a _) (hO7.alloc _) hg8)); (have hS8 := KX.out _ hF8)))
    all_goals
      have O8 := hid ho8
      have F8 := hid hF8
      clear ho8 hg8 hF8 hS8
      obtain ⟨a8, c8, rfl, -, hr8⟩ := rd_app (cs := [0]) (k := 36) O8.out HL35.out rfl rfl HB35.out zero8 rfl
      rw [fin.out] at hr8
      have R8 := hid hr8
      clear hr8
      go_wp2_with fail
      go_meet
      exact ⟨_, _, rfl, R8.out, F8.out⟩
  case rest =>
    obtain ⟨a5', c5', rfl, hr, hf⟩ := hcut
    obtain ⟨x9, rfl⟩ : ∃ q, q = wc := ⟨_, rfl⟩
    have R9 := hid hr
    have F9 := hid hf
    have hq13 := (KX.out _ hf).2.2.2
    have ENC := hid (rfenc8 3 0 sector a5' 36 c5' _ x9 hr (by omega) (by omega) (by omega) (by omega) (by omega) t0 (by omega))
    have hsz : w.heap.size <= x9.heap.size := Nat.le_trans B0.out.size hf.size
    have BW := hid (show Below w.heap.size w x9 from B0.out.trans ⟨hf.os, hf.tape, hf.output, hf.size, fun k hk => hf.block k (Nat.lt_of_lt_of_le hk B0.out.size) (by have := B0.out.size; omega)⟩)
    clear hr hf z0 z1 z2 z3
    go_wp2_with fail
    with_reducible refine ENC.out.mono ?_
    rintro e x10 ⟨v10, rfl, ho10, hb10⟩
    have FIN := hid (And.intro (ho10.mono hsz) (tB BW.out hb10))
    clear ho10 hb10
    go_wp2_with fail
    go_ret
    exact ⟨_, rfl, FIN.out.1, FIN.out.2⟩
theorem rvalid8 (l : Lay) (w : World) (hl : formB l = true) :
    Calls prog 346 #[.agg #[.int .i64 1, .int .i64 1, .int .i64 0, .int .i64 1, .int .i64 0, .int .i64 l.id, .int .i64 l.ver, .int .i64 l.rs, .int .i64 l.rg, .int .i64 0, .int .i64 0, .int .i64 0, .int .i64 0, .slice none 0 0]] w fun e w' => e = .returned (.bool true) /\ Below w.heap.size w w' := by
  have FO := fun W => refform12 l.id l.ver l.rs l.rg W
  have hl' : formB ⟨l.id, l.ver, l.rs, l.rg⟩ = true := hl
  rw [hl'] at FO
  have FO := hid FO
  clear hl hl'
  go_enter Tryz.func346, Tryz.ntmps346
  go_wp2_with fail
  with_reducible refine (FO.out _).mono ?_
  rintro e w2 ⟨rfl, hb2⟩
  have B2 := hid (bel1 hb2)
  have HK := hid (bel1n hb2)
  have hs2 := Nat.lt_of_lt_of_le (Nat.lt_succ_self w.heap.size) (show w.heap.size + 1 <= w2.heap.size from by have := hb2.size; rw [heap_alloc_size] at this; exact this)
  have c1 := qB (i := 1) HK.out
  have c6 := qB (i := 9) HK.out
  have c7 := qB (i := 10) HK.out
  have c8 := qB (i := 11) HK.out
  have c9 := qB (i := 12) HK.out
  have c10 := qB (i := 13) HK.out
  clear hb2
  go_wp2_with fail
  go_ret
  exact ⟨rfl, B2.out⟩
end Go.Proofs.YtbikkioipamlmaaGreatDoor
