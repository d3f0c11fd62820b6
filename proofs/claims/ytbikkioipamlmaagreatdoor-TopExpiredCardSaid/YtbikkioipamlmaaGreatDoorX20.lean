/-
  Laws and contracts for the statement TopExpired.
-/
import Derived.Test.YtbikkioipamlmaaGreatDoorX11
import Derived.Test.YtbikkioipamlmaaGreatDoorX19
open Go.Lib (hid)
open Go.Proofs.Tryz (prog)
set_option linter.unusedVariables false
set_option linter.unusedSimpArgs false
set_option maxRecDepth 100000
set_option maxHeartbeats 20000000
namespace Go.Proofs.YtbikkioipamlmaaGreatDoor
open Go.Maps Go.RowKit L21 T16
theorem layinfo8 : (prog.info? 26).map (fun i => (i.zero, i.size, i.bytes)) = some (some (.agg #[.int .i64 0, .int .i64 0, .int .i64 0, .int .i64 0]), 4, 32) := by kernel_rfl
theorem own_newc (w : World) (B : Nat) (hB : B <= w.heap.size) (e : TypeId) (size m : Nat) (cs : List Value) (hl : cs.length = m * size) (hm : m <= maxLen) : (w.alloc (.cells ⟨cs⟩ e)).ownsRow B e size (.slice (some ⟨w.heap.size, 0, none⟩) m m) m cs :=
  ⟨hl, .inr ⟨w.heap.size, m, ⟨cs⟩, rfl, hB, nB w _, Nat.le_refl _, hm, hl, by rw [<- hl]; exact List.take_length⟩⟩
theorem src_nil (w : World) (size : Nat) : Src w size (.slice none 0 0) 0 [] := ⟨by simp, .inl ⟨rfl, rfl⟩⟩
theorem own_one {w : World} {B : Nat} {e : TypeId} {size m : Nat} {v : Value} {xs : List Value} (h : w.ownsRow B e size v (m + 1) xs) : ∃ g c cur, v = .slice (some ⟨g, 0, none⟩) (m + 1) c /\ B <= g /\ w.heap[g]? = some (.cells cur e (0, 0)) /\ ∀ j, j < (m + 1) * size -> w.cell? ⟨g, j, none⟩ = xs[j]? := by
  have h9 := h
  rcases h.2 with ⟨_, h0⟩ | ⟨g, c, cur, rfl, hg, hb, _⟩
  · omega
  · exact ⟨g, c, cur, rfl, hg, hb, fun j hj => World.ownsRow.cellAt h9 j hj⟩
theorem own_newc8 (w : World) (o : Obj) (e : TypeId) (size m : Nat) (cs : List Value) (hl : cs.length = m * size) (hm : m <= maxLen) : ((w.alloc o).alloc (.cells ⟨cs⟩ e)).ownsRow (w.heap.size + 1) e size (.slice (some ⟨w.heap.size + 1, 0, none⟩) m m) m cs := by
  have h := own_newc (w.alloc o) (w.heap.size + 1) (by simp) e size m cs hl hm
  rw [show (w.alloc o).heap.size = w.heap.size + 1 from by simp] at h
  exact h
theorem sload9 (T : Nat -> Int) (dp ib mb cap n : Nat) (D : DataW Nat) (S : List (List Int)) (wn : Nat) (l : Lay) (w : World) (hd : Dev w dp ib mb cap n D S wn) (hT : CrcT T w) (hf : formB l = true) (h0 : S[0]? = some (List.replicate 64 0)) (h1 : S[1]? = some (supE (crcF T) 1 (sup0 l))) :
    Calls prog 28 #[.pointer (some ⟨dp, 0, none⟩)] w fun e w' => e = .returned (.tuple #[.agg #[.int .i64 1, .int .i64 1, .int .i64 0, .int .i64 1, .int .i64 0, .int .i64 l.id, .int .i64 l.ver, .int .i64 l.rs, .int .i64 l.rg, .int .i64 0, .int .i64 0, .int .i64 0, .int .i64 0, .slice none 0 0], .bool true]) /\ Below w.heap.size w w' :=
  sload8 T dp ib mb cap n D S wn (sup0 l) w hd hT ⟨rfl, rfl, rfl⟩ (sup0_ok hf) rfl h0 h1
theorem recl0 (T : Nat -> Int) (dp ib mb cap n : Nat) (D : DataW Nat) (S : List (List Int)) (wn : Nat) (l : Lay) (now : Int) (w : World) (hd : Dev w dp ib mb cap n D S wn) (hT : CrcT T w) (hf : formB l = true) (hfit : fitsB l (S.length : Int) = true) (h0 : S[0]? = some (List.replicate 64 0)) (h1 : S[1]? = some (supE (crcF T) 1 (sup0 l)))
    (hS : 74 + l.rg.toNat * l.rs.toNat <= S.length) (hc : candL (crcF T) S l l.rg.toNat = []) (n0 : 0 <= now) (n1 : now <= 549755813888) :
    Calls prog 20 #[.pointer (some ⟨dp, 0, none⟩), .int .i64 now] w fun e w' => ∃ pv rv, e = .returned (.tuple #[.agg #[.int .i64 1, .int .i64 1, .int .i64 0, .int .i64 1, .int .i64 0, .int .i64 l.id, .int .i64 l.ver, .int .i64 l.rs, .int .i64 l.rg, .int .i64 0, .int .i64 0, .int .i64 0, .int .i64 0, .slice none 0 0, rv, .int .i64 1, .int .i64 1, .int .i64 now, .int .i64 0, pv], .int .i64 0]) /\
      w'.ownsRow w.heap.size 68 10 rv 0 [] /\ w'.ownsRow w.heap.size 112 6 pv 0 [] /\ Below w.heap.size w w' := by
  have DD := hid (fun (W : World) (hD : Dev W dp ib mb cap n D S wn) => deadD dp ib mb cap n D S wn W hD)
  have SL := hid (fun (W : World) (hD : Dev W dp ib mb cap n D S wn) (hT : CrcT T W) => sload9 T dp ib mb cap n D S wn l W hD hT hf h0 h1)
  have CF := hid (fun (db lb lo lc : Nat) (W : World) (hD : Dev W dp ib mb cap n D S wn) (hb : W.cell? ⟨db, 0, none⟩ = some (.pointer (some ⟨dp, 0, none⟩))) (hl : LayAt W lb lo l) (hlb : lb < W.heap.size) => ldcon8 dp ib mb cap n D S wn l db lb lo lc W hD hb hfit hl hlb)
  have CA := hid (fun (lb lo lc : Nat) (W : World) (hD : Dev W dp ib mb cap n D S wn) (hT : CrcT T W) (hlb : lb < W.heap.size) (hl : LayAt W lb lo l) => cand8 T dp ib mb cap n D S wn l lb lo lc W hD hT hf hS hlb hl)
  rw [hc] at CA
  have HD := hid hd
  have HT := hid hT
  have H2 := hid hd.lt
  obtain ⟨i0, hi, hz0, hz1, hz2⟩ := info_parts layinfo8
  have I1 := hid hi; have I2 := hid hz0; have I3 := hid hz1; have I4 := hid hz2
  clear hd hT hf hfit h0 h1 hS hc hi hz0 hz1 hz2
  go_enter Tryz.func20, Tryz.ntmps20
  go_wp2_with fail
  obtain ⟨w0, hw0⟩ : ∃ w0, (w.alloc (.cells #[.pointer (some ⟨dp, 0, none⟩)] 28)).alloc (.cells #[.int .i64 0, .int .i64 0, .int .i64 0, .int .i64 0, .int .i64 0, .int .i64 0, .int .i64 0, .int .i64 0, .int .i64 0, .int .i64 0, .int .i64 0, .int .i64 0, .int .i64 0, .slice none 0 0, .slice none 0 0, .int .i64 0, .int .i64 0, .int .i64 0, .int .i64 0, .slice none 0 0] 62) = w0 := ⟨_, rfl⟩
  have hs0 : w0.heap.size = w.heap.size + 1 + 1 := by rw [<- hw0]; simp
  have B0 := hid (show Below w.heap.size w w0 by rw [<- hw0]; exact ((Below.refl _ _).alloc (Nat.le_refl _) _).alloc (by simp) _)
  have HA0 := hid (show w0.heap[w.heap.size]? = some (.cells #[.pointer (some ⟨dp, 0, none⟩)] 28 (0, 0)) by rw [<- hw0]; exact old_at (nB w _) _)
  have HB0 := hid (show w0.heap[w.heap.size + 1]? = some (.cells #[.int .i64 0, .int .i64 0, .int .i64 0, .int .i64 0, .int .i64 0, .int .i64 0, .int .i64 0, .int .i64 0, .int .i64 0, .int .i64 0, .int .i64 0, .int .i64 0, .int .i64 0, .slice none 0 0, .slice none 0 0, .int .i64 0, .int .i64 0, .int .i64 0, .int .i64 0, .slice none 0 0] 62 (0, 0)) by rw [<- hw0, has1 w (.cells #[.pointer (some ⟨dp, 0, none⟩)] 28)]; exact nB _ _)
  rw [hw0]
  have HS0 := hid hs0
  have KD := hid (show ∀ W, Below w0.heap.size w0 W -> W.cell? ⟨w.heap.size, 0, none⟩ = some (.pointer (some ⟨dp, 0, none⟩)) from fun W hW => qB ((hW.block _ (by omega)).trans HA0.out))
  clear hw0 hs0
  with_reducible refine (DD.out _ (HD.out.below B0.out)).mono ?_
  rintro e w1 ⟨rfl, rfl⟩
  have kd0 := KD.out _ (Below.refl _ _)
  go_wp2_with fail
  with_reducible refine (SL.out _ (HD.out.below B0.out) (HT.out.below B0.out HT.out.lt)).mono ?_
  rintro e w2 ⟨rfl, hb2⟩
  have B2 := hid hb2
  have kd2 := KD.out _ hb2
  have hl2 : w.heap.size + 1 < w2.heap.size := by have := hb2.size; have := HS0.out; omega
  clear hb2 kd0
  go_wp2_with (at_builtin; refine Stop.out ?_)
  refine Stop.of (wpList_app rfl _ _ 56 rfl (w2.heap.size + 1) 26 i0 (.agg #[.int .i64 0, .int .i64 0, .int .i64 0, .int .i64 0]) 4 32 Tryz.underlying56 I1.out I2.out I3.out I4.out rfl (by decide) _ 1 [.int .i64 l.id, .int .i64 l.ver, .int .i64 l.rs, .int .i64 l.rg] rfl (own_newc8 w2 _ _ 4 1 _ rfl (by unfold maxLen; omega)) _ 0 [] rfl (src_nil _ _) (by simp) (by unfold maxLen; omega) (by omega) (by simp) ?_)
  intro v3 w3 ho3 hg3
  obtain ⟨lb, lc, cur, rfl, hlb, hlh, hlc⟩ := own_one ho3
  have HX2 := hid (show (w2.alloc (.cells #[.int .i64 1, .int .i64 1, .int .i64 0, .int .i64 1, .int .i64 0, .int .i64 l.id, .int .i64 l.ver, .int .i64 l.rs, .int .i64 l.rg, .int .i64 0, .int .i64 0, .int .i64 0, .int .i64 0, .slice none 0 0] 58)).heap[w2.heap.size]? = _ from nB w2 _)
  have B3 := hid (show Below (w2.alloc (.cells #[.int .i64 1, .int .i64 1, .int .i64 0, .int .i64 1, .int .i64 0, .int .i64 l.id, .int .i64 l.ver, .int .i64 l.rs, .int .i64 l.rg, .int .i64 0, .int .i64 0, .int .i64 0, .int .i64 0, .slice none 0 0] 58)).heap.size (w2.alloc (.cells #[.int .i64 1, .int .i64 1, .int .i64 0, .int .i64 1, .int .i64 0, .int .i64 l.id, .int .i64 l.ver, .int .i64 l.rs, .int .i64 l.rg, .int .i64 0, .int .i64 0, .int .i64 0, .int .i64 0, .slice none 0 0] 58)) w3 from by
    refine ((Below.refl _ _).alloc (Nat.le_refl _) _).trans ⟨hg3.os, hg3.tape, hg3.output, hg3.size, fun k hk => hg3.block k (by simp at hk ⊢; omega) (fun e => ?_)⟩
    have : k = w2.heap.size + 1 := by cases e; rfl
    simp at hk
    omega)
  have B23 := hid (tB ((Below.refl w2.heap.size w2).alloc (Nat.le_refl _) _) B3.out)
  have B03 := hid (tB B2.out B23.out)
  have HX3 := hid ((B3.out.block w2.heap.size (by simp)).trans HX2.out)
  have kd3 := KD.out _ B03.out
  have LA3 := hid (show LayAt w3 lb 0 l from ⟨hlc 0 (by omega), hlc 1 (by omega), hlc 2 (by omega), hlc 3 (by omega)⟩)
  have hlt3 := lB hlh
  have CF3 := hid (CF.out w.heap.size lb 0 lc w3 (HD.out.below (tB B0.out B03.out)) kd3 LA3.out hlt3)
  clear ho3 hg3 hlh hlc kd2
  go_wp2_with fail
  with_reducible refine CF3.out.mono ?_
  rintro e w4 ⟨rfl, hb4⟩
  have B4 := hid hb4
  have B04 := hid (tB B03.out hb4)
  have HX4 := hid ((hb4.block w2.heap.size (lB HX3.out)).trans HX3.out)
  have sc0 := qB (i := 0) HX4.out
  have sc1 := qB (i := 1) HX4.out
  have sc2 := qB (i := 2) HX4.out
  have sc3 := qB (i := 3) HX4.out
  have sc4 := qB (i := 4) HX4.out
  have sc5 := qB (i := 5) HX4.out
  have sc6 := qB (i := 6) HX4.out
  have sc7 := qB (i := 7) HX4.out
  have sc8 := qB (i := 8) HX4.out
  have sc9 := qB (i := 9) HX4.out
  have sc10 := qB (i := 10) HX4.out
  have sc11 := qB (i := 11) HX4.out
  have sc12 := qB (i := 12) HX4.out
  have sc13 := qB (i := 13) HX4.out
  have kd4 := KD.out _ B04.out
  have LA4 := hid (show LayAt w4 lb 0 l from by
    obtain ⟨x0, x1, x2, x3⟩ := LA3.out
    exact ⟨(hb4.cell hlt3).trans x0, (hb4.cell hlt3).trans x1, (hb4.cell hlt3).trans x2, (hb4.cell hlt3).trans x3⟩)
  have hlt4 : lb < w4.heap.size := Nat.lt_of_lt_of_le hlt3 hb4.size
  have hl4 : w.heap.size + 1 < w4.heap.size := Nat.lt_of_lt_of_le (Nat.lt_of_lt_of_le hl2 B23.out.size) hb4.size
  have hl42 : w2.heap.size < w4.heap.size := lB HX4.out
  have hl40 : w.heap.size < w4.heap.size := by omega
  clear hb4 kd3
  have hmx : max now 0 = now := by omega
  iterate 41 (first | go_values | go_skip | go_guarded | go_step | go_upon | go_back | go_simp)
  refine wpList_store_row rfl 62 (.tmp 9) (.tmp 54) rfl w4.heap.size #[.int .i64 1, .int .i64 1, .int .i64 0, .int .i64 1, .int .i64 0, .int .i64 l.id, .int .i64 l.ver, .int .i64 l.rs, .int .i64 l.rg, .int .i64 0, .int .i64 0, .int .i64 0, .int .i64 0, .slice none 0 0, .slice none 0 0, .int .i64 1, .int .i64 0, .int .i64 now, .int .i64 0, .slice none 0 0] rfl rfl 62 _ (nB w4 _) (by kernel_rfl) rfl (by simp [Value.oneCell']) ?_
  rw [World.setRow_alloc_new]
  go_wp2_with fail
  obtain ⟨w5, hw5⟩ : ∃ w5, w4.alloc (.cells #[.int .i64 1, .int .i64 1, .int .i64 0, .int .i64 1, .int .i64 0, .int .i64 l.id, .int .i64 l.ver, .int .i64 l.rs, .int .i64 l.rg, .int .i64 0, .int .i64 0, .int .i64 0, .int .i64 0, .slice none 0 0, .slice none 0 0, .int .i64 1, .int .i64 0, .int .i64 now, .int .i64 0, .slice none 0 0] 62) = w5 := ⟨_, rfl⟩
  have B45 := hid (show Below w4.heap.size w4 w5 by rw [<- hw5]; exact (Below.refl _ _).alloc (Nat.le_refl _) _)
  have HS5 := hid (show w5.heap[w4.heap.size]? = some (.cells #[.int .i64 1, .int .i64 1, .int .i64 0, .int .i64 1, .int .i64 0, .int .i64 l.id, .int .i64 l.ver, .int .i64 l.rs, .int .i64 l.rg, .int .i64 0, .int .i64 0, .int .i64 0, .int .i64 0, .slice none 0 0, .slice none 0 0, .int .i64 1, .int .i64 0, .int .i64 now, .int .i64 0, .slice none 0 0] 62 (0, 0)) by rw [<- hw5]; exact nB w4 _)
  rw [hw5]
  clear hw5 sc0 sc1 sc2 sc3 sc4 sc5 sc6 sc7 sc8 sc9 sc10 sc11 sc12 sc13
  have B05 := hid (tB B04.out B45.out)
  have LA5 := hid (show LayAt w5 lb 0 l from by
    obtain ⟨x0, x1, x2, x3⟩ := LA4.out
    exact ⟨(B45.out.cell hlt4).trans x0, (B45.out.cell hlt4).trans x1, (B45.out.cell hlt4).trans x2, (B45.out.cell hlt4).trans x3⟩)
  have CA5 := hid (CA.out lb 0 lc w5 (HD.out.below (tB B0.out B05.out)) (HT.out.below (tB B0.out B05.out) HT.out.lt) (Nat.lt_of_lt_of_le hlt4 B45.out.size) LA5.out)
  with_reducible refine CA5.out.mono ?_
  rintro e w6 ⟨v6, rfl, ho6, hb6⟩
  obtain ⟨a6, c6, rfl⟩ : ∃ a c, v6 = .slice a 0 c := by
    rcases ho6.2 with ⟨rfl, _⟩ | ⟨g, cap, cur, rfl, _⟩
    · exact ⟨none, 0, rfl⟩
    · exact ⟨_, _, rfl⟩
  have O6 := hid ho6
  have B06 := hid (tB B05.out hb6)
  have HS6 := hid ((hb6.block w4.heap.size (lB HS5.out)).trans HS5.out)
  have kd6 := KD.out _ B06.out
  have HB6 := hid ((B06.out.block (w.heap.size + 1) (lB HB0.out)).trans HB0.out)
  have hne := hid (show ¬ (w.heap.size + 1 = w4.heap.size) from by omega)
  have sd14 := qB (i := 14) HS6.out
  have sdf14 := zB (i := 14) HS6.out
  have sd15 := qB (i := 15) HS6.out
  have sdf15 := zB (i := 15) HS6.out
  have sd16 := qB (i := 16) HS6.out
  have sdf16 := zB (i := 16) HS6.out
  have sd17 := qB (i := 17) HS6.out
  have sdf17 := zB (i := 17) HS6.out
  have sd18 := qB (i := 18) HS6.out
  have sdf18 := zB (i := 18) HS6.out
  have sd19 := qB (i := 19) HS6.out
  have sdf19 := zB (i := 19) HS6.out
  have hs46 : w4.heap.size < w6.heap.size := lB HS6.out
  have hs06 : w.heap.size + 1 < w6.heap.size := by omega
  clear ho6 hb6 kd4
  go_wp2_with fail
  obtain ⟨w7, hw7⟩ : ∃ w7, w6.setCell ⟨w4.heap.size, 16, none⟩ (.int .i64 1) = w7 := ⟨_, rfl⟩
  have HS7 := hid (show w7.heap[w4.heap.size]? = some (.cells #[.int .i64 1, .int .i64 1, .int .i64 0, .int .i64 1, .int .i64 0, .int .i64 l.id, .int .i64 l.ver, .int .i64 l.rs, .int .i64 l.rg, .int .i64 0, .int .i64 0, .int .i64 0, .int .i64 0, .slice none 0 0, .slice none 0 0, .int .i64 1, .int .i64 1, .int .i64 now, .int .i64 0, .slice none 0 0] 62 (0, 0)) by rw [<- hw7]; exact uB HS6.out _)
  have F7 := hid (show Fr (fun j => j = w4.heap.size) w6 w7 by rw [<- hw7]; exact fS _ _ _ _)
  have BW7 := hid (show Below w.heap.size w w7 by rw [<- hw7]; exact sB (tB B0.out B06.out) (by omega))
  rw [hw7]
  clear hw7 sd14 sdf14 sd15 sdf15 sd16 sdf16 sd17 sdf17 sd18 sdf18 sd19 sdf19 kd6
  have sd14 := qB (i := 14) HS7.out
  have sdf14 := zB (i := 14) HS7.out
  have sd15 := qB (i := 15) HS7.out
  have sdf15 := zB (i := 15) HS7.out
  have sd16 := qB (i := 16) HS7.out
  have sdf16 := zB (i := 16) HS7.out
  have sd17 := qB (i := 17) HS7.out
  have sdf17 := zB (i := 17) HS7.out
  have sd18 := qB (i := 18) HS7.out
  have sdf18 := zB (i := 18) HS7.out
  have sd19 := qB (i := 19) HS7.out
  have sdf19 := zB (i := 19) HS7.out
  go_loopw [84] (fun i wr => i = .int .i64 0 /\ wr = w7) (fun _ _ => 0)
  case atStart => exact ⟨rfl, rfl⟩
  case round =>
    obtain ⟨rfl, hwr⟩ := hrel
    rw [hwr]
    have LV := hid (fun W (hW : W.ownsRow w5.heap.size 68 10 (.slice a6 0 c6) 0 (regC [])) => live8 (.slice a6 0 c6) _ [] 1 W (by simp) hW (fun r hr => by cases hr))
    go_wp2_with fail
    obtain ⟨w8, hw8⟩ : ∃ w8, w7.setCell ⟨w4.heap.size, 16, none⟩ (.int .i64 1) = w8 := ⟨_, rfl⟩
    have HS8 := hid (show w8.heap[w4.heap.size]? = some (.cells #[.int .i64 1, .int .i64 1, .int .i64 0, .int .i64 1, .int .i64 0, .int .i64 l.id, .int .i64 l.ver, .int .i64 l.rs, .int .i64 l.rg, .int .i64 0, .int .i64 0, .int .i64 0, .int .i64 0, .slice none 0 0, .slice none 0 0, .int .i64 1, .int .i64 1, .int .i64 now, .int .i64 0, .slice none 0 0] 62 (0, 0)) by rw [<- hw8]; exact uB HS7.out _)
    have F8 := hid (show Fr (fun j => j = w4.heap.size) w6 w8 by rw [<- hw8]; exact F7.out.trans (fS _ _ _ _) (fun j hj => .inl hj))
    have BW8 := hid (show Below w.heap.size w w8 by rw [<- hw8]; exact sB BW7.out (by omega))
    rw [hw8]
    have HB8 := hid ((F8.out.block (w.heap.size + 1) (lB HB6.out) hne.out).trans HB6.out)
    have O8 := hid (show w8.ownsRow w5.heap.size 68 10 (.slice a6 0 c6) 0 (regC []) from own_fr O6.out F8.out (fun g hg e => by
      have h1 := (O6.out.lt g hg).1
      have h2 := lB HS5.out
      omega))
    have LV8 := hid (LV.out w8 O8.out)
    clear hw8 sd14 sdf14 sd15 sdf15 sd16 sdf16 sd17 sdf17 sd18 sdf18 sd19 sdf19 LV
    with_reducible refine LV8.out.mono ?_
    rintro e w9 ⟨v9, rfl, ho9, hb9⟩
    obtain ⟨a9, c9, rfl⟩ : ∃ a c, v9 = .slice a 0 c := by
      rcases ho9.2 with ⟨rfl, _⟩ | ⟨g, cap, cur, rfl, _⟩
      · exact ⟨none, 0, rfl⟩
      · exact ⟨_, _, rfl⟩
    have O9 := hid ho9
    have BW9 := hid (tB BW8.out hb9)
    have HB9 := hid ((hb9.block (w.heap.size + 1) (lB HB8.out)).trans HB8.out)
    have HS9 := hid ((hb9.block w4.heap.size (lB HS8.out)).trans HS8.out)
    have hs49 : w4.heap.size < w9.heap.size := lB HS9.out
    have sd14 := qB (i := 14) HS9.out
    have sdf14 := zB (i := 14) HS9.out
    have sd15 := qB (i := 15) HS9.out
    have sdf15 := zB (i := 15) HS9.out
    have sd16 := qB (i := 16) HS9.out
    have sdf16 := zB (i := 16) HS9.out
    have sd17 := qB (i := 17) HS9.out
    have sdf17 := zB (i := 17) HS9.out
    have sd18 := qB (i := 18) HS9.out
    have sdf18 := zB (i := 18) HS9.out
    have sd19 := qB (i := 19) HS9.out
    have sdf19 := zB (i := 19) HS9.out
    clear ho9 hb9
    go_wp2_with fail
    obtain ⟨w10, hw10⟩ : ∃ w10, w9.setCell ⟨w4.heap.size, 14, none⟩ (.slice a9 0 c9) = w10 := ⟨_, rfl⟩
    have HS10 := hid (show w10.heap[w4.heap.size]? = some (.cells #[.int .i64 1, .int .i64 1, .int .i64 0, .int .i64 1, .int .i64 0, .int .i64 l.id, .int .i64 l.ver, .int .i64 l.rs, .int .i64 l.rg, .int .i64 0, .int .i64 0, .int .i64 0, .int .i64 0, .slice none 0 0, .slice a9 0 c9, .int .i64 1, .int .i64 1, .int .i64 now, .int .i64 0, .slice none 0 0] 62 (0, 0)) by rw [<- hw10]; exact uB HS9.out _)
    have F10 := hid (show Fr (fun j => j = w4.heap.size) w9 w10 by rw [<- hw10]; exact fS _ _ _ _)
    have BW10 := hid (show Below w.heap.size w w10 by rw [<- hw10]; exact sB BW9.out (by omega))
    rw [hw10]
    have HB10 := hid ((F10.out.block (w.heap.size + 1) (lB HB9.out) hne.out).trans HB9.out)
    have O10 := hid (show w10.ownsRow w8.heap.size 68 10 (.slice a9 0 c9) 0 [] from own_fr O9.out F10.out (fun g hg e => by
      have h1 := (O9.out.lt g hg).1
      have h2 := lB HS8.out
      omega))
    have M10 := hid (map0 now w10)
    clear hw10 sd14 sdf14 sd15 sdf15 sd16 sdf16 sd17 sdf17 sd18 sdf18 sd19 sdf19
    have sd14 := qB (i := 14) HS10.out
    have sdf14 := zB (i := 14) HS10.out
    have sd15 := qB (i := 15) HS10.out
    have sdf15 := zB (i := 15) HS10.out
    have sd16 := qB (i := 16) HS10.out
    have sdf16 := zB (i := 16) HS10.out
    have sd17 := qB (i := 17) HS10.out
    have sdf17 := zB (i := 17) HS10.out
    have sd18 := qB (i := 18) HS10.out
    have sdf18 := zB (i := 18) HS10.out
    have sd19 := qB (i := 19) HS10.out
    have sdf19 := zB (i := 19) HS10.out
    go_loopw [125, 15] (fun i lv wr => i = .int .i64 0 /\ lv = .slice none 0 0 /\ wr = w10) (fun _ _ _ => 0)
    case atStart => exact ⟨rfl, rfl, rfl⟩
    case round =>
      obtain ⟨rfl, rfl, hwr⟩ := hrel
      rw [hwr]
      go_wp2_with fail
      with_reducible refine M10.out.mono ?_
      rintro e w11 ⟨pv, rfl, ho11, hb11⟩
      obtain ⟨a11, c11, rfl⟩ : ∃ a c, pv = .slice a 0 c := by
        rcases ho11.2 with ⟨rfl, _⟩ | ⟨g, cap, cur, rfl, _⟩
        · exact ⟨none, 0, rfl⟩
        · exact ⟨_, _, rfl⟩
      have O11 := hid ho11
      have B11 := hid hb11
      have BW11 := hid (tB BW10.out hb11)
      have HB11 := hid ((hb11.block (w.heap.size + 1) (lB HB10.out)).trans HB10.out)
      have HS11 := hid ((hb11.block w4.heap.size (lB HS10.out)).trans HS10.out)
      clear ho11 hb11 sd14 sdf14 sd15 sdf15 sd16 sdf16 sd17 sdf17 sd18 sdf18 sd19 sdf19
      have sd19 := qB (i := 19) HS11.out
      have sdf19 := zB (i := 19) HS11.out
      go_upto_region 35 with fail
      obtain ⟨w12, hw12⟩ : ∃ w12, w11.setCell ⟨w4.heap.size, 19, none⟩ (.slice a11 0 c11) = w12 := ⟨_, rfl⟩
      have HS12 := hid (show w12.heap[w4.heap.size]? = some (.cells #[.int .i64 1, .int .i64 1, .int .i64 0, .int .i64 1, .int .i64 0, .int .i64 l.id, .int .i64 l.ver, .int .i64 l.rs, .int .i64 l.rg, .int .i64 0, .int .i64 0, .int .i64 0, .int .i64 0, .slice none 0 0, .slice a9 0 c9, .int .i64 1, .int .i64 1, .int .i64 now, .int .i64 0, .slice a11 0 c11] 62 (0, 0)) by rw [<- hw12]; exact uB HS11.out _)
      have F12 := hid (show Fr (fun j => j = w4.heap.size) w11 w12 by rw [<- hw12]; exact fS _ _ _ _)
      have BW12 := hid (show Below w.heap.size w w12 by rw [<- hw12]; exact sB BW11.out (by omega))
      rw [hw12]
      have HB12 := hid ((F12.out.block (w.heap.size + 1) (lB HB11.out) hne.out).trans HB11.out)
      have O12 := hid (show w12.ownsRow w8.heap.size 68 10 (.slice a9 0 c9) 0 [] from own_fr (own_same O10.out (fun g hg => B11.out.block g (O10.out.lt g hg).2)) F12.out (fun g hg e => by
        have h1 := (O10.out.lt g hg).1
        have h2 := lB HS8.out
        omega))
      have P12 := hid (show w12.ownsRow w10.heap.size 112 6 (.slice a11 0 c11) 0 [] from own_fr O11.out F12.out (fun g hg e => by
        have h1 := (O11.out.lt g hg).1
        have h2 := lB HS10.out
        omega))
      clear hw12 sd19 sdf19
      have hw8l := lB HB8.out
      have hw10l := lB HB10.out
      go_step
      refine wpList_load_row rfl 62 (.tmp 9) rfl w4.heap.size rfl 62 _ (0, 0) _ HS12.out Tryz.underlying62 rfl (by kernel_rfl) ?_
      refine wpList_store_row rfl 62 (.tmp 4) (.tmp 152) rfl (w.heap.size + 1) _ rfl rfl 62 _ HB12.out (by kernel_rfl) rfl (by simp [Value.oneCell']) ?_
      go_wp2_with (with_reducible refine bodyPost_ret (results_cell2 rfl _ _ (w.heap.size + 1) _ _ _ _ rfl (setRow_heap _ _ _ _ _ _ HB12.out) Tryz.underlying62 rfl (by kernel_rfl)) rfl ?_; exact ⟨_, _, rfl, own_mono (own_fr O12.out (fr_setRow _ _ _) (fun g hg e => by have h1 := (O12.out.lt g hg).1; omega)) BW8.out.size, own_mono (own_fr P12.out (fr_setRow _ _ _) (fun g hg e => by have h1 := (P12.out.lt g hg).1; omega)) BW10.out.size, bel_setRow BW12.out (by omega)⟩)
end Go.Proofs.YtbikkioipamlmaaGreatDoor
