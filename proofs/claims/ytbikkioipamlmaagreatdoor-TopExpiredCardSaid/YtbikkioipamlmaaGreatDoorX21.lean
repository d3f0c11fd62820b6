/-
  Laws and contracts for the statement TopExpired.
-/
import Derived.Test.YtbikkioipamlmaaGreatDoorX20
open Go.Lib (hid)
open Go.Proofs.Tryz (prog)
set_option linter.unusedVariables false
set_option linter.unusedSimpArgs false
set_option maxRecDepth 100000
set_option maxHeartbeats 20000000
namespace Go.Proofs.YtbikkioipamlmaaGreatDoor
open Go.Maps Go.RowKit L21 T16
theorem byV_nums {bs : List Int} (h : Byte8 bs) : byV (strOfNums bs) = u8s bs := by
  unfold byV u8s
  rw [strOfNums_data, List.map_map]
  refine List.map_congr_left (fun z hz => ?_)
  obtain ⟨z0, z1⟩ := h z hz
  show Value.int .u8 ((UInt8.ofNat z.toNat).toNat : Int) = Value.int .u8 z
  rw [UInt8.toNat_ofNat', show ((z.toNat % 2 ^ 8 : Nat) : Int) = z from by omega]
theorem nums_size (bs : List Int) : (strOfNums bs).size = bs.length := by
  show (strOfNums bs).data.size = bs.length
  rw [<- Array.length_toList, strOfNums_data, List.length_map]
theorem vals_own8 {B : Nat} {w : World} {a : Option Addr} {n c : Nat} {bs : List Int} (h : Own8 B w (.slice a n c) bs) : Vals w a (u8s bs) := by
  obtain ⟨a', c', e, hv, _⟩ := ownsRow_vals h.own
  cases e; exact hv
theorem vals_row {B : Nat} {w : World} {e : TypeId} {size : Nat} {a : Option Addr} {n c : Nat} {xs : List Value} (h : w.ownsRow B e size (.slice a n c) n xs) : Vals w a xs := by
  obtain ⟨a', c', e, hv, _⟩ := ownsRow_vals h
  cases e; exact hv
def R1C (w : World) (g : Nat) (l : Lay) : Prop := w.cell? ⟨g, 0, none⟩ = some (.int .i64 l.ver) /\ w.cell? ⟨g, 1, none⟩ = some (.int .i64 0) /\ w.cell? ⟨g, 2, none⟩ = some (.int .i64 l.id) /\ w.cell? ⟨g, 3, none⟩ = some (.int .i64 1) /\ w.cell? ⟨g, 4, none⟩ = some (.int .i64 1) /\ w.cell? ⟨g, 5, none⟩ = some (.int .i64 0) /\ w.cell? ⟨g, 6, none⟩ = some (.int .i64 l.id) /\ w.cell? ⟨g, 7, none⟩ = some (.int .i64 l.ver) /\ w.cell? ⟨g, 8, none⟩ = some (.int .i64 l.rs) /\ w.cell? ⟨g, 9, none⟩ = some (.int .i64 l.rg)
theorem R1C.same {w w' : World} {g : Nat} {l : Lay} (h : R1C w g l) (hb : w'.heap[g]? = w.heap[g]?) : R1C w' g l := by
  have e : ∀ i, w'.cell? ⟨g, i, none⟩ = w.cell? ⟨g, i, none⟩ := fun i => by unfold World.cell?; rw [hb]
  unfold R1C
  rw [e, e, e, e, e, e, e, e, e, e]
  exact h
def reg1 (l : Lay) : Reg := ⟨l.ver, 0, l.id, 1, 1, 0, l⟩
theorem r1c_own {w : World} {B : Nat} {v : Value} {l : Lay} (h : w.ownsRow B 68 10 v 1 (regC [reg1 l])) : ∃ g c, v = .slice (some ⟨g, 0, none⟩) 1 c /\ B <= g /\ g < w.heap.size /\ R1C w g l := by
  have h9 := h
  obtain ⟨g, c, cur, rfl, hg, hb, _⟩ := own_one h
  obtain ⟨q0, q1, q2, q3, q4, q5, q6, q7, q8, q9⟩ := regC_cells h9 rfl 0 (reg1 l) rfl
  simp only [Nat.zero_mul, Nat.add_zero, Nat.zero_add] at q0 q1 q2 q3 q4 q5 q6 q7 q8 q9
  exact ⟨g, c, rfl, hg, lB hb, q0, q1, q2, q3, q4, q5, q6, q7, q8, q9⟩
theorem bel_al1 {w : World} (o : Obj) : Below w.heap.size w (w.alloc o) := (Below.refl _ _).alloc (Nat.le_refl _) o
theorem batchinfo8 : (prog.info? 156).map (fun i => (i.zero, i.size, i.bytes)) = some (some (.agg #[.int .i64 0, .slice none 0 0]), 2, 32) := by kernel_rfl
theorem recl1 (T : Nat -> Int) (dp ib mb cap n : Nat) (D : DataW Nat) (S : List (List Int)) (wn : Nat) (l : Lay) (now : Int) (r : Rec) (kn vn z : Nat) (w : World) (hd : Dev w dp ib mb cap n D S wn) (hT : CrcT T w) (hf : formB l = true) (hfit : fitsB l (S.length : Int) = true) (h0 : S[0]? = some (List.replicate 64 0)) (h1 : S[1]? = some (supE (crcF T) 1 (sup0 l)))
    (hS : 74 + l.rg.toNat * l.rs.toNat <= S.length) (hc : candL (crcF T) S l l.rg.toNat = [reg1 l]) (hck : recChk l.ver r = 0) (hkd : r.kind = 1) (hkn : r.key.length = kn) (hvn : r.val.length = vn) (hz : 16 + kn + vn + z = 59) (hz0 : 0 < z) (hst : strF (crcF T) S 1 (74 + 1) (l.rs.toNat - 1) = recE T l.ver 1 0 r ++ List.replicate z 0) (he0 : r.exp ≠ 0) (hen : r.exp <= now) (n0 : 0 <= now) (n1 : now <= 549755813888) :
    Calls prog 20 #[.pointer (some ⟨dp, 0, none⟩), .int .i64 now] w fun e w' => ∃ pv rv, e = .returned (.tuple #[.agg #[.int .i64 1, .int .i64 1, .int .i64 0, .int .i64 1, .int .i64 0, .int .i64 l.id, .int .i64 l.ver, .int .i64 l.rs, .int .i64 l.rg, .int .i64 0, .int .i64 0, .int .i64 0, .int .i64 0, .slice none 0 0, rv, .int .i64 1, .int .i64 2, .int .i64 now, .int .i64 0, pv], .int .i64 0]) /\
      w'.ownsRow w.heap.size 68 10 rv 1 (regC [reg1 l]) /\ w'.ownsRow w.heap.size 112 6 pv 0 [] /\ Below w.heap.size w w' := by
  have DD := hid (fun (W : World) (hD : Dev W dp ib mb cap n D S wn) => deadD dp ib mb cap n D S wn W hD)
  have SL := hid (fun (W : World) (hD : Dev W dp ib mb cap n D S wn) (hT : CrcT T W) => sload9 T dp ib mb cap n D S wn l W hD hT hf h0 h1)
  have CF := hid (fun (db lb lo lc : Nat) (W : World) (hD : Dev W dp ib mb cap n D S wn) (hb : W.cell? ⟨db, 0, none⟩ = some (.pointer (some ⟨dp, 0, none⟩))) (hl : LayAt W lb lo l) (hlb : lb < W.heap.size) => ldcon8 dp ib mb cap n D S wn l db lb lo lc W hD hb hfit hl hlb)
  have CA := hid (fun (lb lo lc : Nat) (W : World) (hD : Dev W dp ib mb cap n D S wn) (hT : CrcT T W) (hlb : lb < W.heap.size) (hl : LayAt W lb lo l) => cand8 T dp ib mb cap n D S wn l lb lo lc W hD hT hf hS hlb hl)
  rw [hc] at CA
  have SR := hid (show ∀ W, Dev W dp ib mb cap n D S wn -> CrcT T W -> Calls prog 68 #[.pointer (some ⟨dp, 0, none⟩), .agg #[.int .i64 l.id, .int .i64 l.ver, .int .i64 l.rs, .int .i64 l.rg], .int .i64 0, .int .i64 1] W fun e w' => ∃ v ka kc va vc, e = .returned v /\ w'.ownsRow W.heap.size 163 6 v 1 (fdC r 0 (16 + (kn : Int) + (vn : Int)) ka kn kc va vn vc) /\ Own8 W.heap.size w' (.slice ka kn kc) r.key /\ Own8 W.heap.size w' (.slice va vn vc) r.val /\ Below W.heap.size W w' from fun W hD hT =>
    sreg1 T dp ib mb cap n D S wn l 0 1 r kn vn z W hD hT hf (by have := formB_rng hf; omega) (by omega) (by omega) (by
      have h1 : 1 <= l.rg.toNat := by have := formB_rng hf; omega
      have h2 := Nat.mul_le_mul_right l.rs.toNat h1
      rw [Nat.one_mul] at h2
      omega) hck hkn hvn hz hz0 (by rw [Nat.zero_mul, Nat.add_zero]; exact hst))
  obtain ⟨j0, hj, hy0, hy1, hy2⟩ := info_parts batchinfo8
  have J1 := hid hj; have J2 := hid hy0; have J3 := hid hy1; have J4 := hid hy2
  have HKD := hid hkd; have HKN := hid hkn; have HVN := hid hvn
  have HE0 := hid he0; have HEN := hid hen; have HKL := hid (show kn <= 255 by omega)
  clear hj hy0 hy1 hy2 hck hkd hkn hvn hz hz0 hst he0 hen
  have HD := hid hd
  have HT := hid hT
  have H2 := hid hd.lt
  obtain ⟨i0, hi, hz0, hz1, hz2⟩ := info_parts layinfo8
  have I1 := hid hi; have I2 := hid hz0; have I3 := hid hz1; have I4 := hid hz2
  clear hd hT hf hfit h0 h1 hS hc hi hz0 hz1 hz2
  go_enter Tryz.func20, Tryz.ntmps20
  go_wp2_with fail
  obtain ⟨w0, hw0⟩ : ∃ w0, (w.alloc (.cells #[.pointer (some ⟨dp, 0, none⟩)] 28)).alloc (.cells #[.int .i64 0, .int .i64 0, .int .i64 0, .int .i64 0, .int .i64 0, .int .i64 0, .int .i64 0, .int .i64 0, .int .i64 0, .int .i64 0, .int .i64 0, .int .i64 0, .int .i64 0, .slice none 0 0, .slice none 0 0, .int .i64 0, .int .i64 0, .int .i64 0, .int .i64 0, .slice none 0 0] 62) = w0 := ⟨_, rfl⟩
  have hs0 : w0.heap.size = w.heap.size + 1 + 1 := by rw [<- hw0]; simp
  have B0 := hid (show Below w.heap.size w w0 by rw [<- hw0]; exact ((Below.refl _ _).alloc (Nat.le_refl _) _).alloc (by simp) _)
  have HA0 := hid (show w0.heap[w.heap.size]? = some (.cells #[.pointer (some ⟨dp, 0, none⟩)] 28 (0, 0)) by rw [<- hw0]; exact old_at (nB w _) _)
  have HB0 := hid (show w0.heap[w.heap.size + 1]? = some (.cells #[.int .i64 0, .int .i64 0, .int .i64 0, .int .i64 0, .int .i64 0, .int .i64 0, .int .i64 0, .int .i64 0, .int .i64 0, .int .i64 0, .int .i64 0, .int .i64 0, .int .i64 0, .slice none 0 0, .slice none 0 0, .int .i64 0, .int .i64 0, .int .i64 0, .int .i64 0, .slice none 0 0] 62 (0, 0)) by rw [<- hw0, has1 w (.cells #[.pointer (some ⟨dp, 0, none⟩)] 28)]; exact nB _ _)
  rw [hw0]
  have HS0 := hid hs0
  have KD := hid (show ∀ W, Below w0.heap.size w0 W -> W.cell? ⟨w.heap.size, 0, none⟩ = some (.pointer (some ⟨dp, 0, none⟩)) from fun W hW => qB ((hW.block _ (by omega)).trans HA0.out))
  clear hw0 hs0
  with_reducible refine (DD.out _ (HD.out.below B0.out)).mono ?_
  rintro e w1 ⟨rfl, rfl⟩
  have kd0 := KD.out _ (Below.refl _ _)
  go_wp2_with fail
  with_reducible refine (SL.out _ (HD.out.below B0.out) (HT.out.below B0.out HT.out.lt)).mono ?_
  rintro e w2 ⟨rfl, hb2⟩
  have B2 := hid hb2
  have kd2 := KD.out _ hb2
  have hl2 : w.heap.size + 1 < w2.heap.size := by have := hb2.size; have := HS0.out; omega
  clear hb2 kd0
  go_wp2_with (at_builtin; refine Stop.out ?_)
  refine Stop.of (wpList_app rfl _ _ 56 rfl (w2.heap.size + 1) 26 i0 (.agg #[.int .i64 0, .int .i64 0, .int .i64 0, .int .i64 0]) 4 32 Tryz.underlying56 I1.out I2.out I3.out I4.out rfl (by decide) _ 1 [.int .i64 l.id, .int .i64 l.ver, .int .i64 l.rs, .int .i64 l.rg] rfl (own_newc8 w2 _ _ 4 1 _ rfl (by unfold maxLen; omega)) _ 0 [] rfl (src_nil _ _) (by simp) (by unfold maxLen; omega) (by omega) (by simp) ?_)
  intro v3 w3 ho3 hg3
  obtain ⟨lb, lc, cur, rfl, hlb, hlh, hlc⟩ := own_one ho3
  have HX2 := hid (show (w2.alloc (.cells #[.int .i64 1, .int .i64 1, .int .i64 0, .int .i64 1, .int .i64 0, .int .i64 l.id, .int .i64 l.ver, .int .i64 l.rs, .int .i64 l.rg, .int .i64 0, .int .i64 0, .int .i64 0, .int .i64 0, .slice none 0 0] 58)).heap[w2.heap.size]? = _ from nB w2 _)
  have B3 := hid (show Below (w2.alloc (.cells #[.int .i64 1, .int .i64 1, .int .i64 0, .int .i64 1, .int .i64 0, .int .i64 l.id, .int .i64 l.ver, .int .i64 l.rs, .int .i64 l.rg, .int .i64 0, .int .i64 0, .int .i64 0, .int .i64 0, .slice none 0 0] 58)).heap.size (w2.alloc (.cells #[.int .i64 1, .int .i64 1, .int .i64 0, .int .i64 1, .int .i64 0, .int .i64 l.id, .int .i64 l.ver, .int .i64 l.rs, .int .i64 l.rg, .int .i64 0, .int .i64 0, .int .i64 0, .int .i64 0, .slice none 0 0] 58)) w3 from by
    refine ((Below.refl _ _).alloc (Nat.le_refl _) _).trans ⟨hg3.os, hg3.tape, hg3.output, hg3.size, fun k hk => hg3.block k (by simp at hk ⊢; omega) (fun e => ?_)⟩
    have : k = w2.heap.size + 1 := by cases e; rfl
    simp at hk
    omega)
  have B23 := hid (tB ((Below.refl w2.heap.size w2).alloc (Nat.le_refl _) _) B3.out)
  have B03 := hid (tB B2.out B23.out)
  have HX3 := hid ((B3.out.block w2.heap.size (by simp)).trans HX2.out)
  have kd3 := KD.out _ B03.out
  have LA3 := hid (show LayAt w3 lb 0 l from ⟨hlc 0 (by omega), hlc 1 (by omega), hlc 2 (by omega), hlc 3 (by omega)⟩)
  have hlt3 := lB hlh
  have CF3 := hid (CF.out w.heap.size lb 0 lc w3 (HD.out.below (tB B0.out B03.out)) kd3 LA3.out hlt3)
  clear ho3 hg3 hlh hlc kd2
  go_wp2_with fail
  with_reducible refine CF3.out.mono ?_
  rintro e w4 ⟨rfl, hb4⟩
  have B4 := hid hb4
  have B04 := hid (tB B03.out hb4)
  have HX4 := hid ((hb4.block w2.heap.size (lB HX3.out)).trans HX3.out)
  have sc0 := qB (i := 0) HX4.out
  have sc1 := qB (i := 1) HX4.out
  have sc2 := qB (i := 2) HX4.out
  have sc3 := qB (i := 3) HX4.out
  have sc4 := qB (i := 4) HX4.out
  have sc5 := qB (i := 5) HX4.out
  have sc6 := qB (i := 6) HX4.out
  have sc7 := qB (i := 7) HX4.out
  have sc8 := qB (i := 8) HX4.out
  have sc9 := qB (i := 9) HX4.out
  have sc10 := qB (i := 10) HX4.out
  have sc11 := qB (i := 11) HX4.out
  have sc12 := qB (i := 12) HX4.out
  have sc13 := qB (i := 13) HX4.out
  have kd4 := KD.out _ B04.out
  have LA4 := hid (show LayAt w4 lb 0 l from by
    obtain ⟨x0, x1, x2, x3⟩ := LA3.out
    exact ⟨(hb4.cell hlt3).trans x0, (hb4.cell hlt3).trans x1, (hb4.cell hlt3).trans x2, (hb4.cell hlt3).trans x3⟩)
  have hlt4 : lb < w4.heap.size := Nat.lt_of_lt_of_le hlt3 hb4.size
  have hl4 : w.heap.size + 1 < w4.heap.size := Nat.lt_of_lt_of_le (Nat.lt_of_lt_of_le hl2 B23.out.size) hb4.size
  have hl42 : w2.heap.size < w4.heap.size := lB HX4.out
  have hl40 : w.heap.size < w4.heap.size := by omega
  clear hb4 kd3
  have hmx : max now 0 = now := by omega
  iterate 41 (first | go_values | go_skip | go_guarded | go_step | go_upon | go_back | go_simp)
  refine wpList_store_row rfl 62 (.tmp 9) (.tmp 54) rfl w4.heap.size #[.int .i64 1, .int .i64 1, .int .i64 0, .int .i64 1, .int .i64 0, .int .i64 l.id, .int .i64 l.ver, .int .i64 l.rs, .int .i64 l.rg, .int .i64 0, .int .i64 0, .int .i64 0, .int .i64 0, .slice none 0 0, .slice none 0 0, .int .i64 1, .int .i64 0, .int .i64 now, .int .i64 0, .slice none 0 0] rfl rfl 62 _ (nB w4 _) (by kernel_rfl) rfl (by simp [Value.oneCell']) ?_
  rw [World.setRow_alloc_new]
  go_wp2_with fail
  obtain ⟨w5, hw5⟩ : ∃ w5, w4.alloc (.cells #[.int .i64 1, .int .i64 1, .int .i64 0, .int .i64 1, .int .i64 0, .int .i64 l.id, .int .i64 l.ver, .int .i64 l.rs, .int .i64 l.rg, .int .i64 0, .int .i64 0, .int .i64 0, .int .i64 0, .slice none 0 0, .slice none 0 0, .int .i64 1, .int .i64 0, .int .i64 now, .int .i64 0, .slice none 0 0] 62) = w5 := ⟨_, rfl⟩
  have B45 := hid (show Below w4.heap.size w4 w5 by rw [<- hw5]; exact (Below.refl _ _).alloc (Nat.le_refl _) _)
  have HS5 := hid (show w5.heap[w4.heap.size]? = some (.cells #[.int .i64 1, .int .i64 1, .int .i64 0, .int .i64 1, .int .i64 0, .int .i64 l.id, .int .i64 l.ver, .int .i64 l.rs, .int .i64 l.rg, .int .i64 0, .int .i64 0, .int .i64 0, .int .i64 0, .slice none 0 0, .slice none 0 0, .int .i64 1, .int .i64 0, .int .i64 now, .int .i64 0, .slice none 0 0] 62 (0, 0)) by rw [<- hw5]; exact nB w4 _)
  rw [hw5]
  clear hw5 sc0 sc1 sc2 sc3 sc4 sc5 sc6 sc7 sc8 sc9 sc10 sc11 sc12 sc13
  have B05 := hid (tB B04.out B45.out)
  have LA5 := hid (show LayAt w5 lb 0 l from by
    obtain ⟨x0, x1, x2, x3⟩ := LA4.out
    exact ⟨(B45.out.cell hlt4).trans x0, (B45.out.cell hlt4).trans x1, (B45.out.cell hlt4).trans x2, (B45.out.cell hlt4).trans x3⟩)
  have CA5 := hid (CA.out lb 0 lc w5 (HD.out.below (tB B0.out B05.out)) (HT.out.below (tB B0.out B05.out) HT.out.lt) (Nat.lt_of_lt_of_le hlt4 B45.out.size) LA5.out)
  with_reducible refine CA5.out.mono ?_
  rintro e w6 ⟨v6, rfl, ho6, hb6⟩
  obtain ⟨g6, c6, rfl, hg6, hg6l, hr6⟩ := r1c_own ho6
  have O6 := hid ho6
  have R6 := hid hr6
  have B06 := hid (tB B05.out hb6)
  have HS6 := hid ((hb6.block w4.heap.size (lB HS5.out)).trans HS5.out)
  have kd6 := KD.out _ B06.out
  have HB6 := hid ((B06.out.block (w.heap.size + 1) (lB HB0.out)).trans HB0.out)
  have hne := hid (show ¬ (w.heap.size + 1 = w4.heap.size) from by omega)
  have hn6 := hid (show ¬ (g6 = w4.heap.size) from by have := lB HS5.out; omega)
  have sd14 := qB (i := 14) HS6.out
  have sdf14 := zB (i := 14) HS6.out
  have sd15 := qB (i := 15) HS6.out
  have sdf15 := zB (i := 15) HS6.out
  have sd16 := qB (i := 16) HS6.out
  have sdf16 := zB (i := 16) HS6.out
  have sd17 := qB (i := 17) HS6.out
  have sdf17 := zB (i := 17) HS6.out
  have sd18 := qB (i := 18) HS6.out
  have sdf18 := zB (i := 18) HS6.out
  have sd19 := qB (i := 19) HS6.out
  have sdf19 := zB (i := 19) HS6.out
  have hs46 : w4.heap.size < w6.heap.size := lB HS6.out
  have hs06 : w.heap.size + 1 < w6.heap.size := by omega
  clear ho6 hb6 kd4 hr6
  go_wp2_with fail
  obtain ⟨w7, hw7⟩ : ∃ w7, w6.setCell ⟨w4.heap.size, 16, none⟩ (.int .i64 1) = w7 := ⟨_, rfl⟩
  have HS7 := hid (show w7.heap[w4.heap.size]? = some (.cells #[.int .i64 1, .int .i64 1, .int .i64 0, .int .i64 1, .int .i64 0, .int .i64 l.id, .int .i64 l.ver, .int .i64 l.rs, .int .i64 l.rg, .int .i64 0, .int .i64 0, .int .i64 0, .int .i64 0, .slice none 0 0, .slice none 0 0, .int .i64 1, .int .i64 1, .int .i64 now, .int .i64 0, .slice none 0 0] 62 (0, 0)) by rw [<- hw7]; exact uB HS6.out _)
  have F7 := hid (show Fr (fun j => j = w4.heap.size) w6 w7 by rw [<- hw7]; exact fS _ _ _ _)
  have BW7 := hid (show Below w.heap.size w w7 by rw [<- hw7]; exact sB (tB B0.out B06.out) (by omega))
  rw [hw7]
  clear hw7 sd14 sdf14 sd15 sdf15 sd16 sdf16 sd17 sdf17 sd18 sdf18 sd19 sdf19 kd6
  have hs7 : w6.heap.size <= w7.heap.size := F7.out.size
  go_loopw [84] (fun i wr => (i = .int .i64 0 /\ wr = w7) \/ (i = .int .i64 1 /\ wr.heap[w4.heap.size]? = some (.cells #[.int .i64 1, .int .i64 1, .int .i64 0, .int .i64 1, .int .i64 0, .int .i64 l.id, .int .i64 l.ver, .int .i64 l.rs, .int .i64 l.rg, .int .i64 0, .int .i64 0, .int .i64 0, .int .i64 0, .slice none 0 0, .slice none 0 0, .int .i64 1, .int .i64 2, .int .i64 now, .int .i64 0, .slice none 0 0] 62 (0, 0)) /\ Fr (fun j => j = w4.heap.size) w6 wr /\ Below w.heap.size w wr)) (fun i _ => 1 - (intOf i).toNat)
  case atStart => exact .inl ⟨rfl, rfl⟩
  case round =>
    rcases hrel with ⟨rfl, hwr⟩ | ⟨rfl, hst7, hfr7, hbw7⟩
    · rw [hwr]
      have sd14 := qB (i := 14) HS7.out
      have sdf14 := zB (i := 14) HS7.out
      have sd15 := qB (i := 15) HS7.out
      have sdf15 := zB (i := 15) HS7.out
      have sd16 := qB (i := 16) HS7.out
      have sdf16 := zB (i := 16) HS7.out
      have sd17 := qB (i := 17) HS7.out
      have sdf17 := zB (i := 17) HS7.out
      have sd18 := qB (i := 18) HS7.out
      have sdf18 := zB (i := 18) HS7.out
      have sd19 := qB (i := 19) HS7.out
      have sdf19 := zB (i := 19) HS7.out
      obtain ⟨q0, q1, q2, q3, q4, q5, q6, q7, q8, q9⟩ := R6.out.same (F7.out.block g6 (by omega) hn6.out)
      have hg7 : g6 < w7.heap.size := by omega
      have h47 : w4.heap.size < w7.heap.size := by omega
      go_wp2_with fail
      go_roundw
      case rel =>
        refine .inr ⟨by go_num, ?_, ?_, ?_⟩
        · exact old_at (uB (uB (uB HS7.out _) _) _) _
        · exact (((F7.out.trans (fS _ _ _ _) (fun j hj => .inl hj)).trans (fS _ _ _ _) (fun j hj => .inl hj)).trans (fS _ _ _ _) (fun j hj => .inl hj)).trans (Fr.of_below (S := fun j => j = w4.heap.size) (bel_al1 _)) (fun j hj => .inl hj)
        · exact bel_al (sB (sB (sB BW7.out (by omega)) (by omega)) (by omega)) _
      case measure => simp [intOf]
    obtain ⟨wy, rfl⟩ : ∃ q, q = wr := ⟨_, rfl⟩
    have HSY := hid hst7
    have FY := hid hfr7
    have BWY := hid hbw7
    clear hst7 hfr7 hbw7
    have OY := hid (own_fr O6.out FY.out (fun g hg e => by
      have hq := (O6.out.lt g hg).1
      have h2 := lB HS5.out
      omega))
    have h4y : w4.heap.size < wy.heap.size := lB HSY.out
    have sd14 := qB (i := 14) HSY.out
    have sdf14 := zB (i := 14) HSY.out
    have sd15 := qB (i := 15) HSY.out
    have sdf15 := zB (i := 15) HSY.out
    have sd16 := qB (i := 16) HSY.out
    have sdf16 := zB (i := 16) HSY.out
    have sd17 := qB (i := 17) HSY.out
    have sdf17 := zB (i := 17) HSY.out
    have sd18 := qB (i := 18) HSY.out
    have sdf18 := zB (i := 18) HSY.out
    have sd19 := qB (i := 19) HSY.out
    have sdf19 := zB (i := 19) HSY.out
    have LV := hid (fun W (hW : W.ownsRow w5.heap.size 68 10 (.slice (some ⟨g6, 0, none⟩) 1 c6) 1 (regC [reg1 l])) => live8 (.slice (some ⟨g6, 0, none⟩) 1 c6) _ [reg1 l] 1 W (by simp) hW (fun r hr => by rw [List.mem_singleton] at hr; rw [hr]; exact Int.le_refl _))
    have hm21 : max (2 : Int) 1 = 2 := rfl
    go_wp2_with fail
    obtain ⟨w8, hw8⟩ : ∃ w8, wy.setCell ⟨w4.heap.size, 16, none⟩ (.int .i64 2) = w8 := ⟨_, rfl⟩
    have HS8 := hid (show w8.heap[w4.heap.size]? = some (.cells #[.int .i64 1, .int .i64 1, .int .i64 0, .int .i64 1, .int .i64 0, .int .i64 l.id, .int .i64 l.ver, .int .i64 l.rs, .int .i64 l.rg, .int .i64 0, .int .i64 0, .int .i64 0, .int .i64 0, .slice none 0 0, .slice none 0 0, .int .i64 1, .int .i64 2, .int .i64 now, .int .i64 0, .slice none 0 0] 62 (0, 0)) by rw [<- hw8]; exact uB HSY.out _)
    have F8 := hid (show Fr (fun j => j = w4.heap.size) w6 w8 by rw [<- hw8]; exact FY.out.trans (fS _ _ _ _) (fun j hj => .inl hj))
    have BW8 := hid (show Below w.heap.size w w8 by rw [<- hw8]; exact sB BWY.out (by omega))
    rw [hw8]
    have HB8 := hid ((F8.out.block (w.heap.size + 1) (lB HB6.out) hne.out).trans HB6.out)
    have HA8 := hid ((F8.out.block w.heap.size (by omega) (by omega)).trans ((B06.out.block w.heap.size (lB HA0.out)).trans HA0.out))
    have O8 := hid (show w8.ownsRow w5.heap.size 68 10 (.slice (some ⟨g6, 0, none⟩) 1 c6) 1 (regC [reg1 l]) from own_fr O6.out F8.out (fun g hg e => by
      have h1 := (O6.out.lt g hg).1
      have h2 := lB HS5.out
      omega))
    have D8 := hid ((HD.out.below (tB B0.out B06.out)).fr F8.out (fun j hj e => by have := HD.out.lt j hj; omega))
    have LV8 := hid (LV.out w8 O8.out)
    clear hw8 sd14 sdf14 sd15 sdf15 sd16 sdf16 sd17 sdf17 sd18 sdf18 sd19 sdf19 LV
    with_reducible refine LV8.out.mono ?_
    rintro e w9 ⟨v9, rfl, ho9, hb9⟩
    obtain ⟨g9, c9, rfl, hg9, hg9l, hr9⟩ := r1c_own ho9
    have O9 := hid ho9
    have R9 := hid hr9
    have BW9 := hid (tB BW8.out hb9)
    have HB9 := hid ((hb9.block (w.heap.size + 1) (lB HB8.out)).trans HB8.out)
    have HA9 := hid ((hb9.block w.heap.size (lB HA8.out)).trans HA8.out)
    have HS9 := hid ((hb9.block w4.heap.size (lB HS8.out)).trans HS8.out)
    have D9 := hid (D8.out.below hb9)
    have hs49 : w4.heap.size < w9.heap.size := lB HS9.out
    have sd14 := qB (i := 14) HS9.out
    have sdf14 := zB (i := 14) HS9.out
    have sd15 := qB (i := 15) HS9.out
    have sdf15 := zB (i := 15) HS9.out
    have sd16 := qB (i := 16) HS9.out
    have sdf16 := zB (i := 16) HS9.out
    have sd17 := qB (i := 17) HS9.out
    have sdf17 := zB (i := 17) HS9.out
    have sd18 := qB (i := 18) HS9.out
    have sdf18 := zB (i := 18) HS9.out
    have sd19 := qB (i := 19) HS9.out
    have sdf19 := zB (i := 19) HS9.out
    clear ho9 hb9 hr9
    go_wp2_with fail
    obtain ⟨w10, hw10⟩ : ∃ w10, w9.setCell ⟨w4.heap.size, 14, none⟩ (.slice (some ⟨g9, 0, none⟩) 1 c9) = w10 := ⟨_, rfl⟩
    have HS10 := hid (show w10.heap[w4.heap.size]? = some (.cells #[.int .i64 1, .int .i64 1, .int .i64 0, .int .i64 1, .int .i64 0, .int .i64 l.id, .int .i64 l.ver, .int .i64 l.rs, .int .i64 l.rg, .int .i64 0, .int .i64 0, .int .i64 0, .int .i64 0, .slice none 0 0, .slice (some ⟨g9, 0, none⟩) 1 c9, .int .i64 1, .int .i64 2, .int .i64 now, .int .i64 0, .slice none 0 0] 62 (0, 0)) by rw [<- hw10]; exact uB HS9.out _)
    have F10 := hid (show Fr (fun j => j = w4.heap.size) w9 w10 by rw [<- hw10]; exact fS _ _ _ _)
    have BW10 := hid (show Below w.heap.size w w10 by rw [<- hw10]; exact sB BW9.out (by omega))
    rw [hw10]
    have hg9n : ¬ (g9 = w4.heap.size) := by have := lB HS8.out; omega
    have HB10 := hid ((F10.out.block (w.heap.size + 1) (lB HB9.out) hne.out).trans HB9.out)
    have HA10 := hid ((F10.out.block w.heap.size (lB HA9.out) (by omega)).trans HA9.out)
    have D10 := hid (D9.out.fr F10.out (fun j hj e => by have := HD.out.lt j hj; omega))
    have R10 := hid (R9.out.same (F10.out.block g9 hg9l hg9n))
    have hg10 : g9 < w10.heap.size := Nat.lt_of_lt_of_le hg9l F10.out.size
    have O10 := hid (show w10.ownsRow w8.heap.size 68 10 (.slice (some ⟨g9, 0, none⟩) 1 c9) 1 (regC [reg1 l]) from own_fr O9.out F10.out (fun g hg e => by
      have h1 := (O9.out.lt g hg).1
      have h2 := lB HS8.out
      omega))
    clear hw10 sd14 sdf14 sd15 sdf15 sd16 sdf16 sd17 sdf17 sd18 sdf18 sd19 sdf19 hg9n
    have sd14 := qB (i := 14) HS10.out
    have sdf14 := zB (i := 14) HS10.out
    go_wp2_with fail
    go_loopw [125, 15] (fun i lv wr => (i = .int .i64 0 /\ lv = .slice none 0 0 /\ wr = w10) \/ (i = .int .i64 1 /\ Below w10.heap.size w10 wr /\ ∃ a cap b f, lv = .slice a 1 cap /\ BtsIn wr a [b] /\ b.fs = [f] /\ f.kind = 1 /\ f.exp ≠ 0 /\ f.exp <= now)) (fun i _ _ => 1 - (intOf i).toNat)
    case atStart => exact .inl ⟨rfl, rfl, rfl⟩
    case round =>
      rcases hrel with ⟨rfl, rfl, rfl⟩ | ⟨rfl, hb10, a15, c15, bt, fd, rfl, hbt, hbf, hfk, hfe, hfn⟩
      · obtain ⟨wb, rfl⟩ : ∃ q, q = wr := ⟨_, rfl⟩
        obtain ⟨q0, q1, q2, q3, q4, q5, q6, q7, q8, q9⟩ := R10.out
        have hA10l := lB HA10.out
        go_upto_region 32 with fail
        obtain ⟨w11, hw11⟩ : ∃ w11, wb.alloc (.cells #[.int .i64 l.ver, .int .i64 0, .int .i64 l.id, .int .i64 1, .int .i64 1, .int .i64 0, .int .i64 l.id, .int .i64 l.ver, .int .i64 l.rs, .int .i64 l.rg] 68) = w11 := ⟨_, rfl⟩
        have B11 := hid (show Below wb.heap.size wb w11 by rw [<- hw11]; exact bel_al1 _)
        have HR11 := hid (show w11.heap[wb.heap.size]? = some (.cells #[.int .i64 l.ver, .int .i64 0, .int .i64 l.id, .int .i64 1, .int .i64 1, .int .i64 0, .int .i64 l.id, .int .i64 l.ver, .int .i64 l.rs, .int .i64 l.rg] 68 (0, 0)) by rw [<- hw11]; exact nB _ _)
        have HA11 := hid ((B11.out.block w.heap.size hA10l).trans HA10.out)
        rw [hw11]
        clear hw11 q0 q1 q2 q3 q4 q5 q6 q7 q8 q9
        have KX := hid (show ∀ W, Below w11.heap.size w11 W -> W.cell? ⟨w.heap.size, 0, none⟩ = some (.pointer (some ⟨dp, 0, none⟩)) /\ W.cell? ⟨wb.heap.size, 1, none⟩ = some (.int .i64 0) /\ W.cell? ⟨wb.heap.size, 3, none⟩ = some (.int .i64 1) /\ W.cell? ⟨wb.heap.size, 6, none⟩ = some (.int .i64 l.id) /\ W.cell? ⟨wb.heap.size, 7, none⟩ = some (.int .i64 l.ver) /\ W.cell? ⟨wb.heap.size, 8, none⟩ = some (.int .i64 l.rs) /\ W.cell? ⟨wb.heap.size, 9, none⟩ = some (.int .i64 l.rg) from fun W hW =>
          have e1 := (hW.block _ (lB HA11.out)).trans HA11.out
          have e2 := (hW.block _ (lB HR11.out)).trans HR11.out
          ⟨qB e1, qB e2, qB e2, qB e2, qB e2, qB e2, qB e2⟩)
        have KX0 := hid (KX.out _ (Below.refl _ w11).drew)
        have SRd := hid (SR.out w11.drew ((D10.out.below B11.out).below (Below.refl _ w11).drew) ((HT.out.below (tB BW10.out B11.out) HT.out.lt).below (Below.refl _ w11).drew (HT.out.below (tB BW10.out B11.out) HT.out.lt).lt))
        have hm1 := hid (show 0 + 1 <= maxLen by unfold maxLen; omega)
        go_region_held3 (fun w' => w'.cell? ⟨w.heap.size, 0, none⟩ = some (.pointer (some ⟨dp, 0, none⟩)) /\ w'.cell? ⟨wb.heap.size, 1, none⟩ = some (.int .i64 0) /\ w'.cell? ⟨wb.heap.size, 3, none⟩ = some (.int .i64 1) /\ w'.cell? ⟨wb.heap.size, 6, none⟩ = some (.int .i64 l.id) /\ w'.cell? ⟨wb.heap.size, 7, none⟩ = some (.int .i64 l.ver) /\ w'.cell? ⟨wb.heap.size, 8, none⟩ = some (.int .i64 l.rs) /\ w'.cell? ⟨wb.heap.size, 9, none⟩ = some (.int .i64 l.rg)) (first | with_reducible exact KX0.out | with_reducible exact hS1 | with_reducible exact hS2 _ | with_reducible exact hS5)
          (first
            | ((go_at_call 68); (with_reducible refine SRd.out.mono ?_); (rintro e x1 ⟨v1, ka, kc, va, vc, rfl, ho1, hk1, hv1, hb1⟩); (have hS1 := KX.out _ (bidd hb1)); (have hS2 := fun (o : Obj) => KX.out _ (bel_al (bidd hb1) o)); (obtain ⟨a1, c1, rfl⟩ := ownsRow_slice ho1))
            | ((with_reducible apply step_app (hgd := rfl) (t := 152) (base := w11.heap.size) (e := 156) (i := j0) (z := .agg #[.int .i64 0, .slice none 0 0]) (size := 2) (bytes := 32) (v := .slice none 0 0) (n := 0) (xs := []) (m := 1) (news := [.int .i64 1, .slice a1 1 c1]) (ht := Tryz.underlying152) (hi := J1.out) (hz := J2.out) (hsize := J3.out) (hby := J4.out) (hzs := rfl)); (case ho => exact rfl); (case hs => exact rfl); (case hx => exact rfl); (case hsz => decide); (case hown => exact World.ownsRow_nil _ _ _ _); (case hsrc => exact src_lit #[.int .i64 1, .slice a1 1 c1] (0, 0) (nB _ _) rfl); (case h1 => simp [Value.oneCell']); (case h63 => exact hm1.out); (case hbytes => omega); (case hbase => exact (bel_al (bidd hb1) _).size); (intro v5 w5' ho5 hg5); (have hb5 := bel_grow (bel_al (bidd hb1) _) (World.ownsRow_nil _ _ 156 2) hg5); (have hb15 := bel_grow (bel_al1 (w := x1) _) (World.ownsRow_nil _ _ 156 2) hg5); (have hS5 := KX.out _ hb5); (obtain ⟨a5, c5, rfl⟩ := ownsRow_slice ho5)))
        have B5 := hid hb5
        have V5 := hid (vals_row ho5)
        have F5 := hid ((vals_row ho1).below hb15 (Nat.le_refl _))
        have K5 := hid ((vals_own8 hk1).below hb15 (Nat.le_refl _))
        have KB := hid hk1.byt
        clear hb5 hb15 hg5 ho5 ho1 hk1 hv1 hb1 hS1 hS2 hS5
        go_wp2_with fail
        go_roundw
        case rel =>
          have hks : (strOfNums r.key).size = kn := by rw [nums_size]; exact HKN.out
          refine .inr ⟨by go_num, tB B11.out B5.out, a5, c5, ⟨1, a1, c1, [⟨0, 16 + (kn : Int) + (vn : Int), r.kind, r.exp, ka, kc, strOfNums r.key, va, vn, vc⟩]⟩, _, rfl, ⟨V5.out, ?_⟩, rfl, HKD.out, HE0.out, HEN.out⟩
          intro b hb
          rw [List.mem_singleton] at hb
          subst hb
          refine ⟨?_, ?_, by simp⟩
          · have e : ([⟨0, 16 + (kn : Int) + (vn : Int), r.kind, r.exp, ka, kc, strOfNums r.key, va, vn, vc⟩] : List T16.Fd).flatMap T16.Fd.cells = fdC r 0 (16 + (kn : Int) + (vn : Int)) ka kn kc va vn vc := by
              simp only [List.flatMap_cons, List.flatMap_nil, List.append_nil, T16.Fd.cells, hks]
            show Vals _ a1 (List.flatMap T16.Fd.cells [_])
            rw [e]
            exact F5.out
          · intro f hf
            rw [List.mem_singleton] at hf
            subst hf
            exact ⟨by show Vals _ ka (byV (strOfNums r.key)); rw [byV_nums KB.out]; exact K5.out, by show (strOfNums r.key).size <= 255; rw [hks]; exact HKL.out⟩
        case measure => simp [intOf]
      · obtain ⟨wz, rfl⟩ : ∃ q, q = wr := ⟨_, rfl⟩
        have B10z := hid hb10
        have HSZ := hid ((hb10.block w4.heap.size (lB HS10.out)).trans HS10.out)
        have HBZ := hid ((hb10.block (w.heap.size + 1) (lB HB10.out)).trans HB10.out)
        have BWZ := hid (tB BW10.out hb10)
        have MZ := hid (map1 now a15 c15 bt fd wz hbt hbf hfk hfe hfn)
        clear hb10 hbt hbf hfk hfe hfn
        have sd17 := qB (i := 17) HSZ.out
        have sdf17 := zB (i := 17) HSZ.out
        go_wp2_with fail
        with_reducible refine MZ.out.mono ?_
        rintro e w11 ⟨pv, rfl, ho11, hb11⟩
        obtain ⟨a11, c11, rfl⟩ : ∃ a c, pv = .slice a 0 c := by
          rcases ho11.2 with ⟨rfl, _⟩ | ⟨g, cap, cur, rfl, _⟩
          · exact ⟨none, 0, rfl⟩
          · exact ⟨_, _, rfl⟩
        have O11 := hid ho11
        have B11 := hid hb11
        have BW11 := hid (tB BWZ.out hb11)
        have HB11 := hid ((hb11.block (w.heap.size + 1) (lB HBZ.out)).trans HBZ.out)
        have HS11 := hid ((hb11.block w4.heap.size (lB HSZ.out)).trans HSZ.out)
        clear ho11 hb11 sd17 sdf17
        have sd19 := qB (i := 19) HS11.out
        have sdf19 := zB (i := 19) HS11.out
        go_upto_region 35 with fail
        obtain ⟨w12, hw12⟩ : ∃ w12, w11.setCell ⟨w4.heap.size, 19, none⟩ (.slice a11 0 c11) = w12 := ⟨_, rfl⟩
        have HS12 := hid (show w12.heap[w4.heap.size]? = some (.cells #[.int .i64 1, .int .i64 1, .int .i64 0, .int .i64 1, .int .i64 0, .int .i64 l.id, .int .i64 l.ver, .int .i64 l.rs, .int .i64 l.rg, .int .i64 0, .int .i64 0, .int .i64 0, .int .i64 0, .slice none 0 0, .slice (some ⟨g9, 0, none⟩) 1 c9, .int .i64 1, .int .i64 2, .int .i64 now, .int .i64 0, .slice a11 0 c11] 62 (0, 0)) by rw [<- hw12]; exact uB HS11.out _)
        have F12 := hid (show Fr (fun j => j = w4.heap.size) w11 w12 by rw [<- hw12]; exact fS _ _ _ _)
        have BW12 := hid (show Below w.heap.size w w12 by rw [<- hw12]; exact sB BW11.out (by omega))
        rw [hw12]
        have HB12 := hid ((F12.out.block (w.heap.size + 1) (lB HB11.out) hne.out).trans HB11.out)
        have O12 := hid (show w12.ownsRow w8.heap.size 68 10 (.slice (some ⟨g9, 0, none⟩) 1 c9) 1 (regC [reg1 l]) from own_fr (own_same (own_same O10.out (fun g hg => B10z.out.block g (O10.out.lt g hg).2)) (fun g hg => B11.out.block g (Nat.lt_of_lt_of_le (O10.out.lt g hg).2 B10z.out.size))) F12.out (fun g hg e => by
          have h1 := (O10.out.lt g hg).1
          have h2 := lB HS8.out
          omega))
        have P12 := hid (show w12.ownsRow wz.heap.size 112 6 (.slice a11 0 c11) 0 [] from own_fr O11.out F12.out (fun g hg e => by
          have h1 := (O11.out.lt g hg).1
          have h2 := lB HSZ.out
          omega))
        clear hw12 sd19 sdf19
        have hw8l := lB HB8.out
        have hwzl := lB HBZ.out
        go_step
        refine wpList_load_row rfl 62 (.tmp 9) rfl w4.heap.size rfl 62 _ (0, 0) _ HS12.out Tryz.underlying62 rfl (by kernel_rfl) ?_
        refine wpList_store_row rfl 62 (.tmp 4) (.tmp 152) rfl (w.heap.size + 1) _ rfl rfl 62 _ HB12.out (by kernel_rfl) rfl (by simp [Value.oneCell']) ?_
        go_wp2_with (with_reducible refine bodyPost_ret (results_cell2 rfl _ _ (w.heap.size + 1) _ _ _ _ rfl (setRow_heap _ _ _ _ _ _ HB12.out) Tryz.underlying62 rfl (by kernel_rfl)) rfl ?_; exact ⟨_, _, rfl, own_mono (own_fr O12.out (fr_setRow _ _ _) (fun g hg e => by have h1 := (O12.out.lt g hg).1; omega)) BW8.out.size, own_mono (own_fr P12.out (fr_setRow _ _ _) (fun g hg e => by have h1 := (P12.out.lt g hg).1; omega)) BWZ.out.size, bel_setRow BW12.out (by omega)⟩)
end Go.Proofs.YtbikkioipamlmaaGreatDoor
