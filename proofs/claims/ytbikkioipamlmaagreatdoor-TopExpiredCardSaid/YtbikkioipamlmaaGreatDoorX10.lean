/-
  Laws and contracts for the statement TopExpired.
-/
import Derived.RangeFuncNested
import Derived.RangeFuncBox
import Derived.RangeFuncBound
import Derived.RangeFuncCalls
import Derived.RangeFuncLeaves
import Derived.Shelf.Abstract
import Derived.Shelf.RegionOpen
import Derived.OwnWalkIn
import Derived.TacticsInMore
import Derived.LoopNIn
import Derived.LoopIn
import Derived.Test.YtbikkioipamlmaaGreatDoorX05
import Derived.Test.YtbikkioipamlmaaGreatDoorX09
open Go.Lib (hid)
open Go.Proofs.Tryz (prog)
set_option linter.unusedVariables false
set_option linter.unusedSimpArgs false
set_option maxRecDepth 100000
set_option maxHeartbeats 20000000
namespace Go.Proofs.YtbikkioipamlmaaGreatDoor
open Go.Maps Go.RowKit
theorem foundinfo : (prog.info? 163).map (fun i => (i.zero, i.size, i.bytes)) = some (some (.agg #[.int .i64 0, .int .i64 0, .int .i64 0, .slice none 0 0, .slice none 0 0, .int .i64 0]), 6, 80) := by kernel_rfl
theorem slice_lo0 (a : Option Addr) (n c : Nat) (W : World) : (Instr.slice 33 (.slice a n c) (some (.int .i64 0)) none none).run prog W = .ok (.slice (lowA a c 0) n c) W := by
  have hs : (sizeOf (prog.elem 33)).run prog W = .ok 1 W := by kernel_rfl
  have h := run_slice_l (P := prog) W 33 a n c (by kernel_rfl) .i64 (0 : Int) (by omega) (by omega)
  rw [hs] at h
  rw [h]
  simp only [sliced, Result.andThen_ok, lowA]
  simp
theorem recE_first (T : Nat -> Int) (ver seq off : Int) (r : Rec) (rest : List Int) : ∃ x : Int, (recE T ver seq off r ++ rest)[0]? = some x /\ (x = 161 \/ x = 162) := by
  unfold recE recH
  split
  · exact ⟨161, rfl, .inl rfl⟩
  · exact ⟨162, rfl, .inr rfl⟩
abbrev fdC (r : Rec) (off len : Int) (ka : Option Addr) (kn kc : Nat) (va : Option Addr) (vn vc : Nat) : List Value := [.int .i64 off, .int .i64 len, .int .i64 r.kind, .slice ka kn kc, .slice va vn vc, .int .i64 r.exp]
theorem bel_al {w w1 : World} (h : Below w.heap.size w w1) (o : Obj) : Below w.heap.size w (w1.alloc o) := h.alloc h.size o
theorem own_mono {w : World} {B B' : Nat} {e : TypeId} {size : Nat} {v : Value} {n : Nat} {xs : List Value} (h : w.ownsRow B e size v n xs) (hB : B' <= B) : w.ownsRow B' e size v n xs := by
  refine ⟨h.1, ?_⟩
  rcases h.2 with h2 | ⟨g, cap, cur, hv, hg, r⟩
  · exact .inl h2
  · exact .inr ⟨g, cap, cur, hv, by omega, r⟩
theorem own_set4 {B : Nat} {w : World} {v : Value} {bs : List Int} (h : Own8 B w v bs) {b : Nat} (hb : b < B) (y0 y1 y2 y3 : Value) : Own8 B ((((w.setCell ⟨b, 0, none⟩ y0).setCell ⟨b, 1, none⟩ y1).setCell ⟨b, 2, none⟩ y2).setCell ⟨b, 3, none⟩ y3) v bs :=
  (((h.setOther hb 0 y0).setOther hb 1 y1).setOther hb 2 y2).setOther hb 3 y3
theorem sreg1 (T : Nat -> Int) (dp ib mb cap n : Nat) (D : DataW Nat) (S : List (List Int)) (wn : Nat) (l : Lay) (slot : Nat) (seq : Int) (r : Rec) (kn vn z : Nat) (w : World) (hd : Dev w dp ib mb cap n D S wn) (hT : CrcT T w) (hf : formB l = true) (hs : (slot : Int) < l.rg) (hq0 : 1 <= seq) (hq1 : seq <= 281474976710655)
    (hS : 74 + slot * l.rs.toNat + l.rs.toNat <= S.length) (hc : recChk l.ver r = 0) (hk : r.key.length = kn) (hv : r.val.length = vn) (hz : 16 + kn + vn + z = 59) (hz0 : 0 < z)
    (hst : strF (crcF T) S seq (74 + slot * l.rs.toNat + 1) (l.rs.toNat - 1) = recE T l.ver seq 0 r ++ List.replicate z 0) :
    Calls prog 68 #[.pointer (some ⟨dp, 0, none⟩), .agg #[.int .i64 l.id, .int .i64 l.ver, .int .i64 l.rs, .int .i64 l.rg], .int .i64 (slot : Int), .int .i64 seq] w fun e w' =>
      ∃ v ka kc va vc, e = .returned v /\ w'.ownsRow w.heap.size 163 6 v 1 (fdC r 0 (16 + (kn : Int) + (vn : Int)) ka kn kc va vn vc) /\ Own8 w.heap.size w' (.slice ka kn kc) r.key /\ Own8 w.heap.size w' (.slice va vn vc) r.val /\ Below w.heap.size w w' := by
  have hcap : capD ⟨l.id, l.ver, l.rs, l.rg⟩ = (l.rs - 1) * 59 := by unfold capD; rw [show (⟨l.id, l.ver, l.rs, l.rg⟩ : Lay) = l from rfl, if_pos hf]
  obtain ⟨most, hm⟩ : ∃ most, (l.rs - 1) * 59 = most := ⟨_, rfl⟩
  rw [hm] at hcap
  have ST := hid (fun (W : World) (hD : Dev W dp ib mb cap n D S wn) (hT : CrcT T W) => stream8 T dp ib mb cap n D S wn l slot seq most W hD hT hf hs hq0 hq1 hm.symm hS)
  rw [hst] at ST
  obtain ⟨bs, hbs⟩ : ∃ bs, recE T l.ver seq 0 r ++ List.replicate z 0 = bs := ⟨_, rfl⟩
  have hbl : bs.length = 59 := by rw [<- hbs, List.length_append, recE_length, hk, hv, List.length_replicate]; omega
  obtain ⟨x0, hx0, hx1⟩ := recE_first T l.ver seq 0 r (List.replicate z 0)
  rw [hbs] at ST hx0
  have HX := hid hx0
  have DC := hid (fun (a : Option Addr) (c : Nat) (W : World) (hT : CrcT T W) (hR : Rd8 W a 59 c bs) => rdec8 T l.ver seq 0 r (List.replicate z 0) a 59 c kn vn W hc hT (by rw [hbs]; exact hR) (by omega) (by omega) (by omega) (by omega) hk hv)
  have CP := hid (fun W => capacity14 l.id l.ver l.rs l.rg W)
  rw [hcap] at CP
  obtain ⟨en, hen⟩ : ∃ en, 16 + kn + vn = en := ⟨_, rfl⟩
  have hez : (16 : Int) + (kn : Int) + (vn : Int) = (en : Int) := by omega
  rw [hez] at DC ⊢
  have en59 : en < 59 := by omega
  have en0 : 0 < en := by omega
  have hxe : bs[en]? = some 0 := by
    rw [<- hbs, List.getElem?_append_right (by rw [recE_length, hk, hv]; omega), recE_length, hk, hv, hen, Nat.sub_self, List.getElem?_replicate, if_pos hz0]
  have HXE := hid hxe
  have HBL := hid hbl
  have HD := hid hd
  have HT := hid hT
  clear hd hT hc hk hv hz hst hbs hf hs hS hm hbl hx0 hxe hen hez hcap
  obtain ⟨id, ver, rs, rg⟩ := l
  simp only at *
  obtain ⟨w0, hw0⟩ : ∃ w0, (w.alloc (.cells #[.int .i64 id, .int .i64 ver, .int .i64 rs, .int .i64 rg] 26)) = w0 := ⟨_, rfl⟩
  have hs0 : w0.heap.size = w.heap.size + 1 := by rw [<- hw0]; simp
  have B0 := hid (show Below w.heap.size w w0 by rw [<- hw0]; exact (Below.refl _ _).alloc (Nat.le_refl _) _)
  have HL0 := hid (show w0.heap[w.heap.size]? = some (.cells #[.int .i64 id, .int .i64 ver, .int .i64 rs, .int .i64 rg] 26 (0, 0)) by rw [<- hw0]; exact nB w _)
  have KL := hid (show ∀ W, Below w0.heap.size w0 W -> W.cell? ⟨w.heap.size, 0, none⟩ = some (.int .i64 id) /\ W.cell? ⟨w.heap.size, 1, none⟩ = some (.int .i64 ver) /\ W.cell? ⟨w.heap.size, 2, none⟩ = some (.int .i64 rs) /\ W.cell? ⟨w.heap.size, 3, none⟩ = some (.int .i64 rg) from fun W hW =>
    have e := (hW.block _ (by omega)).trans HL0.out
    ⟨qB e, qB e, qB e, qB e⟩)
  have KLd := hid (KL.out _ (Below.refl _ w0).drew)
  have HS0 := hid hs0
  clear hs0
  go_enter Tryz.func68, Tryz.ntmps68
  go_wp2_with fail
  (try rw [hw0])
  clear hw0
  go_region_held3 (fun w' => w'.cell? ⟨w.heap.size, 0, none⟩ = some (.int .i64 id) /\ w'.cell? ⟨w.heap.size, 1, none⟩ = some (.int .i64 ver) /\ w'.cell? ⟨w.heap.size, 2, none⟩ = some (.int .i64 rs) /\ w'.cell? ⟨w.heap.size, 3, none⟩ = some (.int .i64 rg)) (first | with_reducible exact KLd.out | with_reducible exact hS1 | with_reducible exact hS2)
    (first
      | ((go_at_call 128); (with_reducible refine (ST.out _ (HD.out.below (tB B0.out (bidd hb1))) (HT.out.below (tB B0.out (bidd hb1)) HT.out.lt)).mono ?_); (rintro e x2 ⟨v, rfl, ho2, hb2⟩); (have hS2 := KL.out _ (tB (bidd hb1) hb2)))
      | ((go_at_call 129); (with_reducible refine (CP.out _).mono ?_); (rintro e x1 ⟨rfl, hb1⟩); (have hS1 := KL.out _ (bidd hb1))))
  obtain ⟨a1, c1, rfl, hr1⟩ := ho2.rd
  rw [HBL.out] at hr1 ⊢
  have hbW := tB (tB B0.out (bidd hb1)) hb2
  have BW := hid hbW
  have B2 := hid (tB (bidd hb1) hb2)
  have R2 := hid hr1
  have D2 := hid (HD.out.below hbW)
  have T2 := hid (HT.out.below hbW HT.out.lt)
  clear hb1 hb2 ho2 hr1 hS1 hS2 hbW ST CP KLd
  obtain ⟨i0, hi, hz0, hz1, hz2⟩ := info_parts foundinfo
  have I1 := hid hi; have I2 := hid hz0; have I3 := hid hz1; have I4 := hid hz2
  clear hi hz0 hz1 hz2
  go_wp2_with fail
  go_loopw [11, 12] (fun out off wr => (off = .int .i64 0 /\ out = .slice none 0 0 /\ wr = x2) \/ ((off = .int .i64 (en : Int) \/ off = .int .i64 59) /\ ∃ ka kc va vc, wr.ownsRow x2.heap.size 163 6 out 1 (fdC r 0 (en : Int) ka kn kc va vn vc) /\ Own8 x2.heap.size wr (.slice ka kn kc) r.key /\ Own8 x2.heap.size wr (.slice va vn vc) r.val /\ Below x2.heap.size x2 wr)) (fun _ o _ => 60 - (intOf o).toNat)
  case atStart => exact .inl ⟨rfl, rfl, rfl⟩
  case round =>
    rcases hrel with ⟨rfl, rfl, rfl⟩ | ⟨rfl | rfl, ka, kc, va, vc, ho, hko, hvo, hb⟩
    · obtain ⟨g, o, rfl, hg, hcell⟩ := R2.out.el 0 (by omega)
      have hc0 : wr.cell? ⟨g, o, none⟩ = some (.int .u8 x0) := by have := HX.out; simpa [this] using hcell
      have hxn : ¬ (x0 = 0) := by omega
      clear hcell
      go_upto_region 7 with fail
      have SL := fun W => slice_lo0 (some ⟨g, o, none⟩) 59 c1 W
      have R3 := hid (show Rd8 wr (lowA (some ⟨g, o, none⟩) c1 0) 59 c1 bs from by have := R2.out.drop 0 (by omega); simpa using this)
      have KW := hid (KL.out wr B2.out)
      have BK := hid (show ∀ W, Below wr.heap.size wr W -> W.cell? ⟨w.heap.size, 1, none⟩ = some (.int .i64 ver) from fun W hW => (KL.out W (tB B2.out hW)).2.1)
      have BK0 := hid (BK.out _ (Below.refl _ wr).drew)
      have DC1 := hid (DC.out _ c1 wr.drew (T2.out.below (Below.refl _ wr).drew T2.out.lt) (R3.out.below (B := wr.heap.size) (Below.refl _ wr).drew (Nat.le_refl _)))
      have DC2 := hid (fun (x : Obj) => DC.out _ c1 (wr.alloc x).drew (T2.out.below ((Below.refl _ wr).alloc (Nat.le_refl _) x).drew T2.out.lt) (R3.out.below (B := wr.heap.size) ((Below.refl _ wr).alloc (Nat.le_refl _) x).drew (Nat.le_refl _)))
      go_cut [13, 14, 15] (fun p nn ok wx => ∃ rb ka kc va vc, p = .pointer (some ⟨rb, 0, none⟩) /\ nn = .int .i64 (en : Int) /\ ok = .bool true /\ wx.heap[rb]? = some (.cells #[.int .i64 r.kind, .slice ka kn kc, .slice va vn vc, .int .i64 r.exp] 161 (0, 0)) /\ Own8 wr.heap.size wx (.slice ka kn kc) r.key /\ Own8 wr.heap.size wx (.slice va vn vc) r.val /\ Below wr.heap.size wr wx)
      case first =>
        go_region_held3 (fun w' => w'.cell? ⟨w.heap.size, 1, none⟩ = some (.int .i64 ver)) (first | with_reducible exact BK0.out | with_reducible exact hS7 | with_reducible exact BK.out _ (hb8.alloc hb8.size _) | with_reducible exact BK.out _ ((Below.refl _ wr).alloc (Nat.le_refl _) _).drew | with_reducible exact BK.out _ (sB (sB (sB (sB hb8 (Nat.le_refl _)) (Nat.le_refl _)) (Nat.le_refl _)) (Nat.le_refl _)))
          (first
            | ((go_at_call 130); (with_reducible refine (DC2.out _).mono ?_); (rintro e x7 ⟨ka, kc, va, vc, rfl, ko7, vo7, hb7⟩); (obtain ⟨hb8, hbo⟩ := bel1d hb7); (have hS7 := BK.out _ hb8); (have q0 := qB (i := 0) hbo); (have q1 := qB (i := 1) hbo); (have q2 := qB (i := 2) hbo); (have q3 := qB (i := 3) hbo); (have f0 := zB (i := 0) hbo); (have f1 := zB (i := 1) hbo); (have f2 := zB (i := 2) hbo); (have f3 := zB (i := 3) hbo))
            | ((go_at_call 130); (with_reducible refine DC1.out.mono ?_); (rintro e x7 ⟨ka, kc, va, vc, rfl, ko7, vo7, hb7⟩); (have hb8 := bidd hb7); (have hS7 := BK.out _ hb8)))
        all_goals
          go_wp2_with fail
          go_meet
          first
            | exact ⟨_, ka, kc, va, vc, rfl, rfl, rfl, set4 hbo _ _ _ _, (own_set4 ko7 (by show wr.heap.size < (wr.alloc _).heap.size; simp) _ _ _ _).mono (by show wr.heap.size <= (wr.alloc _).heap.size; simp), (own_set4 vo7 (by show wr.heap.size < (wr.alloc _).heap.size; simp) _ _ _ _).mono (by show wr.heap.size <= (wr.alloc _).heap.size; simp), sB (sB (sB (sB hb8 (Nat.le_refl _)) (Nat.le_refl _)) (Nat.le_refl _)) (Nat.le_refl _)⟩
            | exact ⟨_, ka, kc, va, vc, rfl, rfl, rfl, nB x7 _, ko7.below ((Below.refl _ _).alloc (Nat.le_refl _) _), vo7.below ((Below.refl _ _).alloc (Nat.le_refl _) _), hb8.alloc hb8.size _⟩
      case rest =>
        obtain ⟨rb, ka, kc, va, vc, rfl, rfl, rfl, hrb, hko, hvo, hb⟩ := hcut
        have q0 := qB (i := 0) hrb
        have q1 := qB (i := 1) hrb
        have q2 := qB (i := 2) hrb
        have q3 := qB (i := 3) hrb
        have HB := hid hb
        have KO := hid hko
        have VO := hid hvo
        have hrl := lB hrb
        clear hrb hb hko hvo hc0
        go_wp2_with (at_builtin; refine Stop.out ?_)
        refine Stop.of (wpList_app rfl _ _ 153 rfl wr.heap.size 163 i0 (.agg #[.int .i64 0, .int .i64 0, .int .i64 0, .slice none 0 0, .slice none 0 0, .int .i64 0]) 6 80 Tryz.underlying153 I1.out I2.out I3.out I4.out rfl (by decide) (.slice none 0 0) 0 [] rfl (World.ownsRow_nil _ _ _ _) _ 1 (fdC r 0 (en : Int) ka kn kc va vn vc) rfl (src_lit #[.int .i64 0, .int .i64 (en : Int), .int .i64 r.kind, .slice ka kn kc, .slice va vn vc, .int .i64 r.exp] (0, 0) (nB wc _) rfl) (by simp [Value.oneCell']) (by unfold maxLen; omega) (by omega) (HB.out.alloc HB.out.size _).size ?_)
        intro v' w5 ho5 hg5
        have O5 := hid (show w5.ownsRow wr.heap.size 163 6 v' 1 (fdC r 0 (en : Int) ka kn kc va vn vc) from ho5)
        have B5 := hid (bel_grow (HB.out.alloc HB.out.size _) (World.ownsRow_nil _ _ 163 6) hg5)
        have B6 := hid (show Below wc.heap.size wc w5 from bel_grow ((Below.refl _ _).alloc (Nat.le_refl _) _) (World.ownsRow_nil _ _ 163 6) hg5)
        have q1' := (B6.out.block rb hrl)
        clear ho5 hg5 q0 q1 q2 q3
        go_wp2_with fail
        go_roundw
        case rel => exact .inr ⟨.inl (by go_num), ka, kc, va, vc, O5.out, KO.out.below B6.out, VO.out.below B6.out, B5.out⟩
        case measure => simp [intOf]; omega
    · have OO := hid ho
      have KO := hid hko
      have VO := hid hvo
      have B3 := hid hb
      obtain ⟨g, o, rfl, hg, hcell⟩ := (R2.out.below hb (Nat.le_refl _)).el en en59
      have hc0 : wr.cell? ⟨g, o + en, none⟩ = some (.int .u8 0) := by have := HXE.out; simpa [this] using hcell
      have hem : (en : Int) % 59 = (en : Int) := by omega
      clear hcell ho hko hvo hb
      go_wp2_with fail
      go_roundw
      case rel => exact .inr ⟨.inr (by go_num), ka, kc, va, vc, OO.out, KO.out, VO.out, B3.out⟩
      case measure => simp [intOf]; omega
    · have OO := hid ho
      have KO := hid hko
      have VO := hid hvo
      have B3 := hid hb
      clear ho hko hvo hb
      go_wp2_with fail
      go_ret
      exact ⟨_, ka, kc, va, vc, rfl, own_mono OO.out BW.out.size, KO.out.mono BW.out.size, VO.out.mono BW.out.size, tB BW.out B3.out⟩
end Go.Proofs.YtbikkioipamlmaaGreatDoor
namespace Go.Proofs.YtbikkioipamlmaaGreatDoor
open Go.Maps Go.RowKit L21
theorem shead8x (T : Nat -> Int) (dp ib mb cap n : Nat) (D : DataW Nat) (S : List (List Int)) (wn : Nat) (l : Lay) (slot : Nat) (w : World) (hd : Dev w dp ib mb cap n D S wn) (hT : CrcT T w) (hf : formB l = true) (hs : (slot : Int) < l.rg) (hS : 74 + slot * l.rs.toNat < S.length) :
    Calls prog 121 #[.pointer (some ⟨dp, 0, none⟩), .agg #[.int .i64 l.id, .int .i64 l.ver, .int .i64 l.rs, .int .i64 l.rg], .int .i64 (slot : Int)] w fun e w' => ∃ (k0 k1 k2 k3 k4 k5 : Int) (ok : Bool), e = .returned (.tuple #[.agg #[.int .i64 k0, .int .i64 k1, .int .i64 k2, .int .i64 k3, .int .i64 k4, .int .i64 k5], .bool ok]) /\ (headAt (crcF T) S l slot = if ok then some ⟨k0, k1, k2, k3, k4, k5⟩ else none) /\ Below w.heap.size w w' := by
  refine (shead8 T dp ib mb cap n D S wn l slot w hd hT hf hs hS).mono ?_
  rintro e w' ⟨rfl, hb⟩
  cases hq : headAt (crcF T) S l slot with
  | none => exact ⟨0, 0, 0, 0, 0, 0, false, rfl, rfl, hb⟩
  | some k => exact ⟨k.ver, k.slot, k.lay, k.seq, k.tail, k.now, true, rfl, rfl, hb⟩
def candL (c : SumF) (S : List (List Int)) (l : Lay) : Nat -> List Reg
  | 0 => []
  | k + 1 => candL c S l k ++ (match headAt c S l k with | none => [] | some h => [⟨h.ver, h.slot, h.lay, h.seq, h.tail, h.now, l⟩])
theorem candL_len (c : SumF) (S : List (List Int)) (l : Lay) (k : Nat) : (candL c S l k).length <= k := by
  induction k with
  | zero => simp [candL]
  | succ k ih => unfold candL; rw [List.length_append]; split <;> simp <;> omega
theorem heap_two8 (w : World) (o o' : Obj) : ((w.alloc o).alloc o').heap[w.heap.size + 1]? = some o' := by rw [has1 w o]; exact nB _ _
theorem regC_snoc (L : List Reg) (r : Reg) : regC (L ++ [r]) = regC L ++ r.cells := by
  induction L with
  | nil => simp [regC]
  | cons x L ih => simp only [List.cons_append, regC, ih, List.append_assoc]
theorem regioninfo8 : (prog.info? 68).map (fun i => (i.zero, i.size, i.bytes)) = some (some (.agg #[.int .i64 0, .int .i64 0, .int .i64 0, .int .i64 0, .int .i64 0, .int .i64 0, .int .i64 0, .int .i64 0, .int .i64 0, .int .i64 0]), 10, 80) := by kernel_rfl
theorem cand8 (T : Nat -> Int) (dp ib mb cap n : Nat) (D : DataW Nat) (S : List (List Int)) (wn : Nat) (l : Lay) (lb lo lc : Nat) (w : World) (hd : Dev w dp ib mb cap n D S wn) (hT : CrcT T w) (hf : formB l = true) (hS : 74 + l.rg.toNat * l.rs.toNat <= S.length) (hlb : lb < w.heap.size) (hl : LayAt w lb lo l) :
    Calls prog 66 #[.pointer (some ⟨dp, 0, none⟩), .slice (some ⟨lb, lo, none⟩) 1 lc] w fun e w' => ∃ v, e = .returned v /\ w'.ownsRow w.heap.size 68 10 v (candL (crcF T) S l l.rg.toNat).length (regC (candL (crcF T) S l l.rg.toNat)) /\ Below w.heap.size w w' := by
  have hrg := formB_rng hf
  have SH := hid (fun (slot : Nat) (W : World) (hD : Dev W dp ib mb cap n D S wn) (hT : CrcT T W) (hs : (slot : Int) < l.rg) => shead8x T dp ib mb cap n D S wn l slot W hD hT hf hs (by
    have h1 : slot + 1 <= l.rg.toNat := by omega
    have h2 := Nat.mul_le_mul_right l.rs.toNat h1
    rw [Nat.add_mul, Nat.one_mul] at h2
    have : 2 <= l.rs.toNat := by omega
    omega))
  obtain ⟨rn, hrn⟩ : ∃ rn, l.rg.toNat = rn := ⟨_, rfl⟩
  have hrl : l.rg = (rn : Int) := by omega
  rw [hrn] at hS ⊢
  have hr16 : rn <= 16 := by omega
  have CN := hid (candL_len (crcF T) S l)
  obtain ⟨cd, hcd⟩ : ∃ cd, candL (crcF T) S l = cd := ⟨_, rfl⟩
  have CZ := hid (show cd 0 = [] by rw [<- hcd]; rfl)
  have CL := hid (show ∀ k, cd (k + 1) = cd k ++ (match headAt (crcF T) S l k with | none => [] | some h => [⟨h.ver, h.slot, h.lay, h.seq, h.tail, h.now, l⟩]) by rw [<- hcd]; intro k; rfl)
  rw [hcd] at CN ⊢
  obtain ⟨l0, l1, l2, l3⟩ := hl
  rw [hrl] at l3
  have HD := hid hd
  have HT := hid hT
  rw [hrl] at SH
  obtain ⟨i0, hi, hz0, hz1, hz2⟩ := info_parts regioninfo8
  have I1 := hid hi; have I2 := hid hz0; have I3 := hid hz1; have I4 := hid hz2
  clear hi hz0 hz1 hz2
  have HRL := hid hrl
  clear hd hT hf hS hrn hcd hrl hrg
  go_enter Tryz.func66, Tryz.ntmps66
  go_wp2_with fail
  go_loopw [13, 5] (fun i v wr => (i = .int .i64 0 /\ v = .slice none 0 0 /\ wr = w) \/ (i = .int .i64 1 /\ wr.ownsRow w.heap.size 68 10 v (cd rn).length (regC (cd rn)) /\ Below w.heap.size w wr)) (fun i _ _ => 1 - (intOf i).toNat)
  case atStart => exact .inl ⟨rfl, rfl, rfl⟩
  case round =>
    rcases hrel with ⟨rfl, rfl, rfl⟩ | ⟨rfl, ho, hb⟩
    · obtain ⟨wo, rfl⟩ : ∃ q, q = wr := ⟨_, rfl⟩
      go_wp2_with fail
      obtain ⟨w1, hw1⟩ : ∃ w1, wo.alloc (.cells #[.int .i64 l.id, .int .i64 l.ver, .int .i64 l.rs, .int .i64 (rn : Int)] 26) = w1 := ⟨_, rfl⟩
      have B1 := hid (show Below wo.heap.size wo w1 by rw [<- hw1]; exact (Below.refl _ _).alloc (Nat.le_refl _) _)
      have HL1 := hid (show w1.heap[wo.heap.size]? = some (.cells #[.int .i64 l.id, .int .i64 l.ver, .int .i64 l.rs, .int .i64 (rn : Int)] 26 (0, 0)) by rw [<- hw1]; exact nB wo _)
      have hs1 : wo.heap.size < w1.heap.size := by rw [<- hw1]; simp
      rw [hw1]
      clear hw1
      have KL := hid (show ∀ W, Below w1.heap.size w1 W -> W.cell? ⟨wo.heap.size, 0, none⟩ = some (.int .i64 l.id) /\ W.cell? ⟨wo.heap.size, 1, none⟩ = some (.int .i64 l.ver) /\ W.cell? ⟨wo.heap.size, 2, none⟩ = some (.int .i64 l.rs) /\ W.cell? ⟨wo.heap.size, 3, none⟩ = some (.int .i64 (rn : Int)) from fun W hW =>
        have e := (hW.block _ hs1).trans HL1.out
        ⟨qB e, qB e, qB e, qB e⟩)
      go_loopw [19, 5] (fun j v wx => ∃ k : Nat, k <= rn /\ j = .int .i64 (k : Int) /\ wx.ownsRow w1.heap.size 68 10 v (cd k).length (regC (cd k)) /\ Below w1.heap.size w1 wx) (fun j _ _ => rn - (intOf j).toNat)
      case atStart => exact ⟨0, Nat.zero_le _, rfl, by rw [CZ.out]; exact World.ownsRow_nil _ _ _ _, Below.refl _ _⟩
      case round =>
        obtain ⟨k, hk, rfl, ho, hb⟩ := hrel
        have OO := hid ho
        have BB := hid hb
        have hs2 := hb.size
        obtain ⟨kl0, kl1, kl2, kl3⟩ := KL.out _ hb
        clear ho hb
        by_cases hlt : k < rn
        · have HC := hid (SH.out k _ (HD.out.below (tB B1.out BB.out)) (HT.out.below (tB B1.out BB.out) HT.out.lt) (by omega))
          have hl16 := CN.out k
          go_wp2_with fail
          with_reducible refine HC.out.mono ?_
          rintro e x1 ⟨k0, k1, k2, k3, k4, k5, ok, rfl, hq, hb1⟩
          have X1 := hid (tB BB.out hb1)
          have O1 := hid (own_same OO.out (fun g hg => hb1.block g (OO.out.lt g hg).2))
          have hs3 := hb1.size
          obtain ⟨kx0, kx1, kx2, kx3⟩ := KL.out _ X1.out
          have hlx : wo.heap.size < x1.heap.size := by omega
          have CK : cd (k + 1) = cd k ++ (match (if ok then some (⟨k0, k1, k2, k3, k4, k5⟩ : Hd) else none) with | none => [] | some h => [⟨h.ver, h.slot, h.lay, h.seq, h.tail, h.now, l⟩]) := by rw [<- hq]; exact CL.out k
          clear hb1 hq kl0 kl1 kl2 kl3
          cases ok
          · simp only [Bool.false_eq_true, if_false, List.append_nil] at CK
            have CK' := hid CK
            clear CK
            go_wp2_with fail
            go_roundw
            case rel => exact ⟨k + 1, by omega, by go_num, by rw [CK'.out]; exact O1.out.alloc _, bel_al X1.out _⟩
            case measure => simp [intOf]; omega
          · simp only [if_true] at CK
            have CK' := hid CK
            clear CK
            go_wp2_with (at_builtin; refine Stop.out ?_)
            refine Stop.of (wpList_app rfl _ _ 59 rfl w1.heap.size 68 i0 (.agg #[.int .i64 0, .int .i64 0, .int .i64 0, .int .i64 0, .int .i64 0, .int .i64 0, .int .i64 0, .int .i64 0, .int .i64 0, .int .i64 0]) 10 80 Tryz.underlying59 I1.out I2.out I3.out I4.out rfl (by decide) _ (cd k).length (regC (cd k)) rfl ((O1.out.alloc _).alloc _) _ 1 [.int .i64 k0, .int .i64 k1, .int .i64 k2, .int .i64 k3, .int .i64 k4, .int .i64 k5, .int .i64 l.id, .int .i64 l.ver, .int .i64 l.rs, .int .i64 (rn : Int)] rfl (src_lit #[.int .i64 k0, .int .i64 k1, .int .i64 k2, .int .i64 k3, .int .i64 k4, .int .i64 k5, .int .i64 l.id, .int .i64 l.ver, .int .i64 l.rs, .int .i64 (rn : Int)] (0, 0) (heap_two8 _ _ _) rfl) (by simp [Value.oneCell']) (by unfold maxLen; omega) (by omega) (bel_al (bel_al X1.out _) _).size ?_)
            intro v' w5 ho5 hg5
            have ho6 : w5.ownsRow w1.heap.size 68 10 v' (cd (k + 1)).length (regC (cd (k + 1))) := by
              rw [CK'.out, List.length_append, regC_snoc]
              have e : (⟨k0, k1, k2, k3, k4, k5, l⟩ : Reg).cells = [.int .i64 k0, .int .i64 k1, .int .i64 k2, .int .i64 k3, .int .i64 k4, .int .i64 k5, .int .i64 l.id, .int .i64 l.ver, .int .i64 l.rs, .int .i64 (rn : Int)] := by rw [<- HRL.out]; rfl
              rw [e]
              exact ho5
            have O6 := hid ho6
            have B6 := hid (bel_grow (bel_al (bel_al X1.out _) _) ((O1.out.alloc _).alloc _) hg5)
            clear ho5 hg5 ho6
            go_wp2_with fail
            go_roundw
            case rel => exact ⟨k + 1, by omega, by go_num, O6.out, B6.out⟩
            case measure => simp [intOf]; omega
        · obtain rfl : k = rn := by omega
          go_wp2_with fail
          go_roundw
          case rel => exact .inr ⟨by go_num, own_mono OO.out B1.out.size, tB B1.out BB.out⟩
          case measure => simp [intOf]
    · have OO := hid ho
      have BB := hid hb
      clear ho hb
      go_wp2_with fail
      go_ret
      exact ⟨_, rfl, OO.out, BB.out⟩
end Go.Proofs.YtbikkioipamlmaaGreatDoor
namespace Go.Proofs.YtbikkioipamlmaaGreatDoor
open Go.Maps Go.RowKit
theorem ldlit8 (dp ib mb cap n : Nat) (D : DataW Nat) (S : List (List Int)) (wn : Nat) (l : Lay) (db : Nat) (w : World) (hd : Dev w dp ib mb cap n D S wn) (hb : w.cell? ⟨db, 0, none⟩ = some (.pointer (some ⟨dp, 0, none⟩))) (hfit : fitsB l (S.length : Int) = true) :
    Calls prog 62 #[.agg #[.int .i64 l.id, .int .i64 l.ver, .int .i64 l.rs, .int .i64 l.rg], .pointer (some ⟨db, 0, none⟩)] w fun e w' => e = .returned (.bool false) /\ Below w.heap.size w w' := by
  have hbl : db < w.heap.size := World.block_lt_of_cell? _ _ hb
  have SC := hid (fun (W : World) (hD : Dev W dp ib mb cap n D S wn) => sectorsD dp ib mb cap n D S wn W hD)
  have FI := hid (fun W => fits15 l.id l.ver l.rs l.rg (S.length : Int) W)
  rw [show (⟨l.id, l.ver, l.rs, l.rg⟩ : Lay) = l from rfl, hfit] at FI
  have HD := hid hd
  have HC := hid hb
  have K := hid (show ∀ W, Below (w.alloc (.cells #[.int .i64 l.id, .int .i64 l.ver, .int .i64 l.rs, .int .i64 l.rg] 26)).heap.size (w.alloc (.cells #[.int .i64 l.id, .int .i64 l.ver, .int .i64 l.rs, .int .i64 l.rg] 26)) W -> W.cell? ⟨w.heap.size, 0, none⟩ = some (.int .i64 l.id) /\ W.cell? ⟨w.heap.size, 1, none⟩ = some (.int .i64 l.ver) /\ W.cell? ⟨w.heap.size, 2, none⟩ = some (.int .i64 l.rs) /\ W.cell? ⟨w.heap.size, 3, none⟩ = some (.int .i64 l.rg) /\ W.cell? ⟨db, 0, none⟩ = some (.pointer (some ⟨dp, 0, none⟩)) from fun W hW =>
    have e := (hW.block w.heap.size (by simp)).trans (nB w _)
    have b := tB ((Below.refl w.heap.size w).alloc (Nat.le_refl _) _) hW
    ⟨qB e, qB e, qB e, qB e, (b.cell (p := ⟨db, 0, none⟩) hbl).trans HC.out⟩)
  have K0 := hid (K.out _ (Below.refl _ _).drew)
  have D0 := hid (fun W (hW : Below (w.alloc (.cells #[.int .i64 l.id, .int .i64 l.ver, .int .i64 l.rs, .int .i64 l.rg] 26)).heap.size (w.alloc (.cells #[.int .i64 l.id, .int .i64 l.ver, .int .i64 l.rs, .int .i64 l.rg] 26)) W) => SC.out W (HD.out.below (tB ((Below.refl w.heap.size w).alloc (Nat.le_refl _) _) hW)))
  have D1 := hid (D0.out _ (Below.refl _ _).drew)
  have BA := hid (fun W (hW : Below (w.alloc (.cells #[.int .i64 l.id, .int .i64 l.ver, .int .i64 l.rs, .int .i64 l.rg] 26)).heap.size (w.alloc (.cells #[.int .i64 l.id, .int .i64 l.ver, .int .i64 l.rs, .int .i64 l.rg] 26)) W) => tB ((Below.refl w.heap.size w).alloc (Nat.le_refl _) _) hW)
  clear hd hb hfit
  go_enter Tryz.func62, Tryz.ntmps62
  go_wp2_with fail
  go_region_held3 (fun w' => w'.cell? ⟨w.heap.size, 0, none⟩ = some (.int .i64 l.id) /\ w'.cell? ⟨w.heap.size, 1, none⟩ = some (.int .i64 l.ver) /\ w'.cell? ⟨w.heap.size, 2, none⟩ = some (.int .i64 l.rs) /\ w'.cell? ⟨w.heap.size, 3, none⟩ = some (.int .i64 l.rg) /\ w'.cell? ⟨db, 0, none⟩ = some (.pointer (some ⟨dp, 0, none⟩))) (first | with_reducible exact K0.out | with_reducible exact hS1)
    (first
      | ((go_at_call 64); (with_reducible refine D1.out.mono ?_); (rintro e x1 ⟨rfl, rfl⟩))
      | ((go_at_call 63); (with_reducible refine (FI.out _).mono ?_); (rintro e x1 ⟨rfl, hb1⟩); (have hS1 := K.out _ (bidd hb1))))
  go_wp2_with fail
  go_ret
  exact ⟨rfl, BA.out _ (bidd hb1)⟩
theorem ldidx8 (dp ib mb cap n : Nat) (D : DataW Nat) (S : List (List Int)) (wn : Nat) (l : Lay) (db lb lo lc : Nat) (w : World) (hd : Dev w dp ib mb cap n D S wn) (hb : w.cell? ⟨db, 0, none⟩ = some (.pointer (some ⟨dp, 0, none⟩))) (hfit : fitsB l (S.length : Int) = true) (hl : LayAt w lb lo l) (hlb : lb < w.heap.size) :
    Calls prog 118 #[.slice (some ⟨lb, lo, none⟩) 1 lc, .func (.func 62) #[] #[.pointer (some ⟨db, 0, none⟩)]] w fun e w' => e = .returned (.int .i64 (-1)) /\ Below w.heap.size w w' := by
  have LT := hid (ldlit8 dp ib mb cap n D S wn l db w hd hb hfit)
  obtain ⟨l0, l1, l2, l3⟩ := hl
  clear hd hb hfit
  go_enter Tryz.func118, Tryz.ntmps118
  go_wp2_with fail
  go_loopw [8] (fun i wr => (i = .int .i64 0 /\ wr = w) \/ (i = .int .i64 1 /\ Below w.heap.size w wr)) (fun i _ => 1 - (intOf i).toNat)
  case atStart => exact .inl ⟨rfl, rfl⟩
  case round =>
    rcases hrel with ⟨rfl, rfl⟩ | ⟨rfl, hbw⟩
    · go_wp2_with fail
      with_reducible refine LT.out.mono ?_
      rintro e x1 ⟨rfl, hb1⟩
      go_wp2_with fail
      go_roundw
      case rel => exact .inr ⟨by go_num, hb1⟩
      case measure => simp [intOf]
    · have BB := hid hbw
      clear hbw
      go_wp2_with fail
      go_ret
      exact ⟨rfl, BB.out⟩
theorem ldcon8 (dp ib mb cap n : Nat) (D : DataW Nat) (S : List (List Int)) (wn : Nat) (l : Lay) (db lb lo lc : Nat) (w : World) (hd : Dev w dp ib mb cap n D S wn) (hb : w.cell? ⟨db, 0, none⟩ = some (.pointer (some ⟨dp, 0, none⟩))) (hfit : fitsB l (S.length : Int) = true) (hl : LayAt w lb lo l) (hlb : lb < w.heap.size) :
    Calls prog 61 #[.slice (some ⟨lb, lo, none⟩) 1 lc, .func (.func 62) #[] #[.pointer (some ⟨db, 0, none⟩)]] w fun e w' => e = .returned (.bool false) /\ Below w.heap.size w w' := by
  have LT := hid (ldidx8 dp ib mb cap n D S wn l db lb lo lc w hd hb hfit hl hlb)
  clear hd hb hfit hl
  go_enter Tryz.func61, Tryz.ntmps61
  go_wp2_with fail
  with_reducible refine LT.out.mono ?_
  rintro e x1 ⟨rfl, hb1⟩
  go_wp2_with fail
  go_ret
  exact ⟨rfl, hb1⟩
end Go.Proofs.YtbikkioipamlmaaGreatDoor
namespace Go.Proofs.YtbikkioipamlmaaGreatDoor
open Go.RowKit Go.Shelf L21
attribute [local go_sem] Oper.semAt_some
abbrev regV (r : Reg) : Value := .agg #[.int .i64 r.ver, .int .i64 r.slot, .int .i64 r.lay, .int .i64 r.seq, .int .i64 r.tail, .int .i64 r.now, .int .i64 r.l.id, .int .i64 r.l.ver, .int .i64 r.l.rs, .int .i64 r.l.rg]
abbrev regO (r : Reg) : Obj := .cells #[.int .i64 r.ver, .int .i64 r.slot, .int .i64 r.lay, .int .i64 r.seq, .int .i64 r.tail, .int .i64 r.now, .int .i64 r.l.id, .int .i64 r.l.ver, .int .i64 r.l.rs, .int .i64 r.l.rg] 68
theorem rvalues1 (F : Fence) (n : Nat) (h7 : F.fn 196) (hro : F.round = none) (hn : 1 <= n) (l Bs n₀ b off cap : Nat) (L : List Reg) (len : Nat) (hlen : L.length = len) (hreach : len <= 1000000) (hb : b < n₀) (J Jx : List Reg -> World -> Prop)
    (hY : ∀ pre x W, J pre W -> pre.length < len -> YieldAt F (n - 1) prog l #[regV x] W fun e W' =>
      (e = .returned (.bool true) /\ J (pre ++ [x]) W' /\ Below n₀ W W') \/ (e = .returned (.bool false) /\ Jx (pre ++ [x]) W'))
    (hal : ∀ pre (W : World) (o : Obj), n₀ <= W.heap.size -> J pre W -> J pre (W.alloc o))
    (W : World) (hn0 : n₀ <= W.heap.size) (hBs : W.cell? ⟨Bs, 0, none⟩ = some (.slice (some ⟨b, off, none⟩) len cap)) (hc : ∀ j r, L[j]? = some r -> RegCells W b (off + j * 10) r) (h0 : J [] W) :
    CallsIn F n prog 196 #[.func (.yield l) #[] #[], .pointer (some ⟨Bs, 0, none⟩)] W fun e W' => (∃ v, e = .returned v) /\
      (J L W' \/ (∃ pre, pre <+: L /\ Jx pre W')) := by
  refine callsIn_of_wp Tryz.func196 rfl h7 ?_ hro
  simp only [Tryz.ntmps196, List.size_toArray, List.length_cons, List.length_nil, Nat.reduceAdd, Nat.reduceSub, Array.replicate_succ, Array.replicate_zero, List.push_toArray, List.append_toArray, List.nil_append, List.cons_append]
  gi_wp2
  gi_loopw [7] (fun i wr => ∃ k : Nat, k <= len /\ i = .int .i64 k /\ J (L.take k) wr /\ Below n₀ W wr)
    (fun i _ => len - (intOf i).toNat)
  case atStart => exact ⟨0, Nat.zero_le _, rfl, h0, Below.refl _ _⟩
  case round =>
    obtain ⟨k, hk, rfl, hJs, hnx⟩ := hrel
    by_cases hlt : k < len
    · have hLk : L[k]? = some (L[k]'(by omega)) := List.getElem?_eq_getElem (by omega)
      obtain ⟨x, hx⟩ : ∃ x, L[k]'(by omega) = x := ⟨_, rfl⟩
      rw [hx] at hLk
      obtain ⟨c0, c1, c2, c3, c4, c5, c6, c7, c8, c9⟩ := hc k x hLk
      have hbl : b < n₀ := hb
      have HTK := hid (show L.take (k + 1) = L.take k ++ [x] from by rw [List.take_add_one, hLk]; rfl)
      have kx := fun j => (hnx.cell (p := ⟨b, j, none⟩) hbl)
      rw [<- kx] at c0 c1 c2 c3 c4 c5 c6 c7 c8 c9
      clear kx
      obtain ⟨fn, tmps, assign, body, hy, hR⟩ := hY _ x _ (hal _ wr (regO x) (Nat.le_trans hn0 hnx.size) hJs) (by rw [List.length_take]; omega)
      clear hc hLk hx
      have hn1 := Nat.le_trans hn0 hnx.size
      gi_wp2
      refine hR.mono ?_
      rintro e W3 (⟨rfl, hJ3, hk3⟩ | ⟨rfl, hJx3⟩)
      · gi_wp2
        go_roundw
        case rel => exact ⟨k + 1, by omega, by simp, by rw [HTK.out]; exact hJ3, (hnx.alloc hn1 _).trans hk3⟩
        case measure => simp [intOf]; omega
      · gi_wp2
        refine bodyPost_ret (results_none rfl _ _ _) rfl ?_
        exact ⟨⟨_, rfl⟩, .inr ⟨_, by rw [<- HTK.out]; exact List.take_prefix _ _, hJx3⟩⟩
    · obtain rfl : k = len := by omega
      rw [List.take_of_length_le (by omega)] at hJs
      gi_wp2
      go_end0
      exact ⟨⟨_, rfl⟩, .inl hJs⟩
def RgIn (n₀ : Nat) (W : World) (sv : Value) (L : List Reg) : Prop :=
  (sv = .slice none 0 0 /\ L = []) \/ ∃ b off cap, sv = .slice (some ⟨b, off, none⟩) L.length cap /\ b < n₀ /\ ∀ j r, L[j]? = some r -> RegCells W b (off + j * 10) r
theorem RegCells.below {n₀ : Nat} {A B : World} (h : Below n₀ A B) {b o : Nat} (hb : b < n₀) {r : Reg} (c : RegCells A b o r) : RegCells B b o r := by
  obtain ⟨c0, c1, c2, c3, c4, c5, c6, c7, c8, c9⟩ := c
  have k := fun j => (h.cell (p := ⟨b, j, none⟩) hb)
  exact ⟨(k _).trans c0, (k _).trans c1, (k _).trans c2, (k _).trans c3, (k _).trans c4, (k _).trans c5, (k _).trans c6, (k _).trans c7, (k _).trans c8, (k _).trans c9⟩
theorem RgIn.below {n₀ : Nat} {A B : World} (h : Below n₀ A B) {sv : Value} {L : List Reg} : RgIn n₀ A sv L -> RgIn n₀ B sv L
  | .inl e => .inl e
  | .inr ⟨b, off, cap, e, hb, hc⟩ => .inr ⟨b, off, cap, e, hb, fun j r hj => (hc j r hj).below h hb⟩
theorem rvalues1_nil (F : Fence) (n : Nat) (h7 : F.fn 196) (hro : F.round = none) (l Bs : Nat) (J : List Reg -> World -> Prop) (W : World) (hBs : W.cell? ⟨Bs, 0, none⟩ = some (.slice none 0 0)) (h0 : J [] W) :
    CallsIn F n prog 196 #[.func (.yield l) #[] #[], .pointer (some ⟨Bs, 0, none⟩)] W fun e W' => (∃ v, e = .returned v) /\ J [] W' := by
  refine callsIn_of_wp Tryz.func196 rfl h7 ?_ hro
  simp only [Tryz.ntmps196, List.size_toArray, List.length_cons, List.length_nil, Nat.reduceAdd, Nat.reduceSub, Array.replicate_succ, Array.replicate_zero, List.push_toArray, List.append_toArray, List.nil_append, List.cons_append]
  gi_wp2
  gi_loopw [7] (fun i wr => i = .int .i64 0 /\ J [] wr) (fun _ _ => 0)
  case atStart => exact ⟨rfl, h0⟩
  case round =>
    obtain ⟨rfl, hJs⟩ := hrel
    gi_wp2
    go_end0
    exact ⟨⟨_, rfl⟩, hJs⟩
theorem rvalues8 (a : Option Addr) (len cap : Nat) (w : World) :
    Calls prog 123 #[.slice a len cap] w fun e w' => e = .returned (.func (.func 196) #[] #[.pointer (some ⟨w.heap.size, 0, none⟩)]) /\ w' = w.alloc (.cells #[.slice a len cap] 59) := by
  go_enter Tryz.func123, Tryz.ntmps123
  go_wp2_with fail
  go_ret
  exact ⟨rfl, rfl⟩
theorem rvalues_stops (F : Fence) (n : Nat) (h7 : F.fn 196) (hro : F.round = none) (hn : 1 <= n) (Bs n₀ : Nat) (sv : Value) (L : List Reg) (hreach : L.length <= 1000000) (w : World) (hBs : Bs < w.heap.size) (hn₀ : n₀ <= w.heap.size)
    (hc : w.cell? ⟨Bs, 0, none⟩ = some sv) (hI : RgIn n₀ w sv L) :
    SeqStopsK F n prog 196 #[.pointer (some ⟨Bs, 0, none⟩)] (fun x : Reg => #[regV x]) (Below n₀) (fun ys => ys = L) (fun pre => pre <+: L) L.length w := fun l J Jx W hW hJ _ hY h0 => by
  have hc' := (hW.cell (p := ⟨Bs, 0, none⟩) hBs).trans hc
  rcases hI.below (hW.mono hn₀) with ⟨rfl, rfl⟩ | ⟨b, off, cap, rfl, hb, hcs⟩
  · exact (rvalues1_nil F n h7 hro l Bs J W hc' h0).mono fun e W' ⟨he, hj⟩ => ⟨he, .inl ⟨_, rfl, hj⟩⟩
  · refine (rvalues1 F n h7 hro hn l Bs n₀ b off cap L L.length rfl hreach hb J Jx hY (fun pre W o _ hp => hJ pre W (W.alloc o) none hp (World.grownBy_alloc W o none) (fun r e => by cases e)) W (Nat.le_trans hn₀ hW.size) hc' hcs h0).mono ?_
    rintro e W' ⟨he, hj | ⟨pre, hk, hj⟩⟩
    · exact ⟨he, .inl ⟨_, rfl, hj⟩⟩
    · exact ⟨he, .inr ⟨_, hk, hj⟩⟩
end Go.Proofs.YtbikkioipamlmaaGreatDoor
