/-
  Laws and contracts for the statement TopExpired.
-/
import Derived.Test.YtbikkioipamlmaaGreatDoorX25
open Go.Lib (hid)
open Go.Proofs.Tryz (prog)
set_option linter.unusedVariables false
set_option linter.unusedSimpArgs false
set_option maxRecDepth 100000
set_option maxHeartbeats 20000000
namespace Go.Proofs.YtbikkioipamlmaaGreatDoor
open Go.Maps Go.RowKit
theorem rflush0 (rb dp pb : Nat) (h : Hd) (l : Lay) (st : List Int) (tk : Nat) (sv : Value) (w : World) (r : Rgn w rb dp pb h l st tk sv) (h0 : st.length < (tk + 1) * 59) :
    Calls prog 190 #[.pointer (some ⟨rb, 0, none⟩)] w fun e w' => e = .returned (.int .i64 0) /\ Below w.heap.size w w' := by
  have r7 : w.cell? ⟨rb, 7, none⟩ = some (.pointer (some ⟨pb, 0, none⟩)) := qB r.blk
  have RM := hid (ptake0 pb l _ _ st tk sv w r.pk h0)
  clear r h0
  go_enter Tryz.func190, Tryz.ntmps190
  go_wp2_with fail
  with_reducible refine RM.out.mono ?_
  rintro e w1 ⟨rfl, hb1⟩
  have B1 := hid hb1
  clear hb1
  go_wp2_with fail
  go_loopw [18] (fun i wr => i = .int .i64 0 /\ wr = w1) (fun _ _ => 0)
  case atStart => exact ⟨rfl, rfl⟩
  case round =>
    obtain ⟨rfl, rfl⟩ := hrel
    go_wp2_with fail
    go_ret
    exact ⟨rfl, B1.out⟩
theorem rflush1 (T : Nat -> Int) (rb dp pb ib mb cap n : Nat) (D : DataW Nat) (S : List (List Int)) (wn fi : Nat) (h : Hd) (l : Lay) (st : List Int) (tk : Nat) (sv : Value) (w : World) (r : Rgn w rb dp pb h l st tk sv) (hd : Dev w dp ib mb cap n D S wn) (hT : CrcT T w)
    (h0 : (tk + 1) * 59 <= st.length) (h1 : st.length < (tk + 2) * 59) (hfi : firstD l h.slot = (fi : Int)) (hS : fi + 1 + tk < S.length) (hwr : wn + 1 <= 1000000) (hdis : ∀ j, regF rb pb sv j -> ¬ devF dp ib mb j) :
    Calls prog 190 #[.pointer (some ⟨rb, 0, none⟩)] w fun e w' => e = .returned (.int .i64 0) /\ ∃ n' D', Dev w' dp ib mb cap n' D' (S.set (fi + 1 + tk) (frameE (crcF T) 2 h.seq ((fi : Int) + 1 + (tk : Int)) ((st.drop (tk * 59)).take 59))) (wn + 1) /\
      Rgn w' rb dp pb h l st (tk + 1) sv /\ Fr (fun j => j = pb \/ devF dp ib mb j) w w' := by
  have r7 : w.cell? ⟨rb, 7, none⟩ = some (.pointer (some ⟨pb, 0, none⟩)) := qB r.blk
  have RM := hid (ptake1 T pb l _ _ st tk sv w r.pk hT h0 h1)
  rw [hfi] at RM
  have hpl : ((st.drop (tk * 59)).take 59).length <= 59 := by simp; omega
  have HL := hid (frameE_length (crcF T) 2 h.seq ((fi : Int) + 1 + (tk : Int)) ((st.drop (tk * 59)).take 59) hpl)
  obtain ⟨E, hE⟩ : ∃ E, frameE (crcF T) 2 h.seq ((fi : Int) + 1 + (tk : Int)) ((st.drop (tk * 59)).take 59) = E := ⟨_, rfl⟩
  rw [hE] at RM HL ⊢
  obtain ⟨sec, hsec⟩ : ∃ q : Nat, fi + 1 + tk = q := ⟨_, rfl⟩
  have hsz : (fi : Int) + 1 + (tk : Int) = (sec : Int) := by omega
  rw [hsz] at RM
  rw [hsec] at hS ⊢
  have HD := hid hd
  have HFI := hid hfi
  have HR := hid r
  have HDIS := hid hdis
  have hpr : ¬ rb = pb := fun e => r.ne (.inl e)
  have hrl := lB r.blk
  have DL := hid hd.lt
  clear r h0 h1 hE hsz hsec hd hT hdis hpl hfi
  go_enter Tryz.func190, Tryz.ntmps190
  go_wp2_with fail
  with_reducible refine RM.out.mono ?_
  rintro e w1 ⟨g2, c2, g3, c3, af, cf, rfl, q2, q3, ⟨a2, a3, b2, b3⟩, ho, hp, hf⟩
  have R1 := hid (show Rgn w1 rb dp pb h l st (tk + 1) sv from ⟨by rw [hf.block rb hrl hpr]; exact HR.out.blk, by rw [HFI.out]; exact hp, HR.out.ne⟩)
  have F1 := hid hf
  have D1 := hid (HD.out.fr hf (fun j hj e => HDIS.out pb (.inr (.inl rfl)) (by rw [<- e]; exact hj)))
  have DL1 := hid (show ∀ j, devF dp ib mb j -> j < w.heap.size from DL.out)
  have O1 := hid ho
  have r0 : w1.cell? ⟨rb, 0, none⟩ = some (.pointer (some ⟨dp, 0, none⟩)) := qB R1.out.blk
  clear hf hp ho
  obtain ⟨_, _, he, hr1⟩ := O1.out.rd
  rw [HL.out] at he hr1
  cases he
  have HR1 := hid hr1
  clear hr1
  go_wp2_with fail
  go_loopw [18] (fun i wr' => (i = .int .i64 0 /\ wr' = w1) \/ (i = .int .i64 1 /\ ∃ n' D', Dev wr' dp ib mb cap n' D' (S.set sec E) (wn + 1) /\ Rgn wr' rb dp pb h l st (tk + 1) sv /\ Fr (fun j => j = pb \/ devF dp ib mb j) w wr')) (fun i _ => 1 - (intOf i).toNat)
  case atStart => exact .inl ⟨rfl, rfl⟩
  case round =>
    rcases hrel with ⟨rfl, rfl⟩ | ⟨rfl, n', D', hd', hr', hf'⟩
    · have W1 := hid (writeD dp ib mb cap n D S wn sec af 64 cf E _ (D1.out.below (Below.refl _ _).drew) hS (HR1.out.below (Below.refl _ _).drew (Nat.le_refl _)) (by omega) hwr (fun ad e hj => by
        have h6 := DL1.out ad.block hj
        have h7 := (O1.out.own.lt ad.block (by rw [e]; rfl)).1
        omega))
      have K9 := hid (show ∀ W, Fr (devF dp ib mb) wr.drew W -> W.cell? ⟨rb, 0, none⟩ = some (.pointer (some ⟨dp, 0, none⟩)) /\ W.cell? ⟨g3, 0, none⟩ = some (.slice af 64 cf) from fun W hW =>
        ⟨(hW.keep (w := wr.drew) (lB R1.out.blk) (HDIS.out _ (.inl rfl))).trans r0, (hW.keep (w := wr.drew) b3 (fun hj => by have := DL1.out _ hj; omega)).trans q3⟩)
      have K0 := hid (show wr.drew.cell? ⟨rb, 0, none⟩ = some (.pointer (some ⟨dp, 0, none⟩)) /\ wr.drew.cell? ⟨g3, 0, none⟩ = some (.slice af 64 cf) from ⟨r0, q3⟩)
      go_wp2_with fail
      go_region_held3 (fun w' => w'.cell? ⟨rb, 0, none⟩ = some (.pointer (some ⟨dp, 0, none⟩)) /\ w'.cell? ⟨g3, 0, none⟩ = some (.slice af 64 cf)) (first | with_reducible exact K0.out | with_reducible exact hS9)
        (first
          | ((go_at_call 172); (with_reducible refine W1.out.mono ?_); (rintro e w5 ⟨rfl, n5, D5, hd5, hf5⟩); (have hS9 := K9.out _ hf5)))
      have HD5 := hid hd5
      have R5 := hid ((R1.out.below (Below.refl _ _).drew).fr hf5 HDIS.out)
      have F5 := hid ((F1.out.drew.mono (T := fun j => j = pb \/ devF dp ib mb j) (fun j _ hj => .inl hj)).trans hf5 (fun j hj => .inl (.inr hj)))
      have e64 := HL.out
      clear hd5 hf5
      go_wp2_with fail
      go_roundw
      case rel =>
        refine .inr ⟨rfl, n5, D5, ?_, R5.out, F5.out⟩
        have := HD5.out
        rw [pad64_self e64] at this
        exact this
      case measure => simp [intOf]
    · have DD := hid hd'; have RR := hid hr'; have FF := hid hf'
      clear hd' hr' hf'
      go_wp2_with fail
      go_ret
      exact ⟨rfl, n', D', DD.out, RR.out, FF.out⟩
theorem fr_undrew {S : Nat -> Prop} {w w' : World} (h : Fr S w.drew w') : Fr S w w' := ⟨h.os, h.tape, h.output, h.size, h.block⟩
theorem rappend0 (T : Nat -> Int) (rb dp pb : Nat) (h : Hd) (l : Lay) (st : List Int) (tk : Nat) (sv : Value) (r : Rec) (ka va : Option Addr) (kn kc vn vc : Nat) (w : World) (g : Rgn w rb dp pb h l st tk sv) (hT : CrcT T w) (hk : Rd8 w ka kn kc r.key) (hv : Rd8 w va vn vc r.val)
    (hc : recChk l.ver r = 0) (hfit : ((st.length + (16 + kn + vn) : Nat) : Int) <= capD l) (h0 : st.length + (16 + kn + vn) < (tk + 1) * 59) :
    Calls prog 218 #[.pointer (some ⟨rb, 0, none⟩), recV r.kind r.exp ka kn kc va vn vc] w fun e w' => ∃ sv', e = .returned (.tuple #[.int .i64 (st.length : Int), .int .i64 ((16 + kn + vn : Nat) : Int), .int .i64 0]) /\
      Rgn w' rb dp pb h l (st ++ recE T l.ver h.seq (st.length : Int) r) tk sv' /\ Fr (pkF pb sv) w w' /\ (∀ b, sv'.ownBlock = some b -> sv.ownBlock = some b \/ w.heap.size <= b) := by
  have hkl := hk.len
  have hvl := hv.len
  have hel : (st ++ recE T l.ver h.seq (st.length : Int) r).length < (tk + 1) * 59 := by rw [List.length_append, recE_length, hkl, hvl]; exact h0
  have PP := hid (fun (W : World) (hP : Pk W pb l (firstD l h.slot) h.seq st tk sv) (hT : CrcT T W) (hk : Rd8 W ka kn kc r.key) (hv : Rd8 W va vn vc r.val) => pput8 T pb l _ _ st tk sv r ka va kn kc vn vc W hP hT hk hv hc hfit)
  obtain ⟨Q, hQ⟩ : ∃ Q, st ++ recE T l.ver h.seq (st.length : Int) r = Q := ⟨_, rfl⟩
  rw [hQ] at PP hel ⊢
  obtain ⟨sn, hsn⟩ : ∃ n, st.length = n := ⟨_, rfl⟩
  obtain ⟨en, hen⟩ : ∃ n, 16 + kn + vn = n := ⟨_, rfl⟩
  rw [hsn, hen] at PP ⊢
  have HG := hid g
  have HT := hid hT
  have HK := hid hk
  have HV := hid hv
  have hrl := lB g.blk
  obtain ⟨w0, hw0⟩ : ∃ w0, w.alloc (.cells #[.int .i64 r.kind, .slice ka kn kc, .slice va vn vc, .int .i64 r.exp] 161) = w0 := ⟨_, rfl⟩
  have hs0 : w0.heap.size = w.heap.size + 1 := by rw [<- hw0]; simp
  have B0 := hid (show Below w.heap.size w w0 by rw [<- hw0]; exact (Below.refl _ _).alloc (Nat.le_refl _) _)
  have HB3 := hid (show w0.heap[w.heap.size]? = some (.cells #[.int .i64 r.kind, .slice ka kn kc, .slice va vn vc, .int .i64 r.exp] 161 (0, 0)) by rw [<- hw0]; exact nB w _)
  have FL := hid (fun (W : World) (sv' : Value) (hR : Rgn W rb dp pb h l Q tk sv') => rflush0 rb dp pb h l Q tk sv' W hR hel)
  have K := hid (show ∀ W, Fr (pkF pb sv) w0 W -> W.cell? ⟨rb, 7, none⟩ = some (.pointer (some ⟨pb, 0, none⟩)) /\ W.cell? ⟨w.heap.size, 0, none⟩ = some (.int .i64 r.kind) /\ W.cell? ⟨w.heap.size, 1, none⟩ = some (.slice ka kn kc) /\ W.cell? ⟨w.heap.size, 2, none⟩ = some (.slice va vn vc) /\ W.cell? ⟨w.heap.size, 3, none⟩ = some (.int .i64 r.exp) from fun W hW =>
    have e := (hW.block rb (by omega) HG.out.ne).trans ((B0.out.block rb hrl).trans HG.out.blk)
    have e2 := (hW.block w.heap.size (by omega) (fun hj => by have := HG.out.pk.lt _ hj; omega)).trans HB3.out
    ⟨qB e, qB e2, qB e2, qB e2, qB e2⟩)
  have K0 := hid (K.out _ (Fr.of_below (Below.refl _ w0).drew))
  have BD := hid B0.out.drew
  have P0 := hid (PP.out w0.drew (HG.out.pk.below BD.out) (HT.out.below BD.out HT.out.lt) (HK.out.below BD.out (Nat.le_refl _)) (HV.out.below BD.out (Nat.le_refl _)))
  clear g hT hk hv hc hfit h0 hkl hvl hel hQ hsn hen PP
  go_enter Tryz.func218, Tryz.ntmps218
  go_wp2_with fail
  (try rw [hw0])
  clear hw0
  go_region_held3 (fun w' => w'.cell? ⟨rb, 7, none⟩ = some (.pointer (some ⟨pb, 0, none⟩)) /\ w'.cell? ⟨w.heap.size, 0, none⟩ = some (.int .i64 r.kind) /\ w'.cell? ⟨w.heap.size, 1, none⟩ = some (.slice ka kn kc) /\ w'.cell? ⟨w.heap.size, 2, none⟩ = some (.slice va vn vc) /\ w'.cell? ⟨w.heap.size, 3, none⟩ = some (.int .i64 r.exp)) (first | with_reducible exact K0.out | with_reducible exact hS9)
    (first
      | ((go_at_call 285); (with_reducible refine P0.out.mono ?_); (rintro e w5 ⟨sv', rfl, hp5, hf5, hn5⟩); (have hS9 := K.out _ (fr_undrew hf5))))
  have F5 := hid ((Fr.of_below (S := pkF pb sv) BD.out).trans hf5 (fun j hj => .inl hj))
  have N5 := hid (show ∀ b, sv'.ownBlock = some b -> sv.ownBlock = some b \/ w.heap.size <= b from fun b hb => (hn5 b hb).imp id (fun h => Nat.le_trans BD.out.size h))
  have R5 := hid (show Rgn w5 rb dp pb h l Q tk sv' from ⟨by rw [F5.out.block rb hrl HG.out.ne]; exact HG.out.blk, hp5, fun hj => hj.elim (fun e => HG.out.ne (.inl e)) (fun e => (N5.out rb e).elim (fun h => HG.out.ne (.inr h)) (fun h => by omega))⟩)
  have FL5 := hid (FL.out w5 sv' R5.out)
  clear hp5 hf5 hn5 hS9 FL
  go_wp2_with fail
  with_reducible refine FL5.out.mono ?_
  rintro e w6 ⟨rfl, hb6⟩
  go_wp2_with fail
  go_ret3
  exact ⟨sv', rfl, R5.out.below hb6, F5.out.trans (Fr.of_below (S := pkF pb sv) hb6) (fun j hj => .inl hj), N5.out⟩
theorem rsync1 (T : Nat -> Int) (rb dp pb ib mb cap n : Nat) (D : DataW Nat) (S : List (List Int)) (wn fi : Nat) (h : Hd) (l : Lay) (st : List Int) (tk : Nat) (sv : Value) (w : World) (r : Rgn w rb dp pb h l st tk sv) (hd : Dev w dp ib mb cap n D S wn) (hT : CrcT T w)
    (h0 : tk * 59 < st.length) (h1 : st.length <= (tk + 1) * 59) (hfi : firstD l h.slot = (fi : Int)) (hS : fi + 1 + tk < S.length) (hwr : wn + 1 <= 1000000) (hdis : ∀ j, regF rb pb sv j -> ¬ devF dp ib mb j) (hz : 0 < pb /\ ∀ j, pkF pb sv j -> 0 < j) (hz2 : ∀ j, devF dp ib mb j -> 0 < j) :
    Calls prog 117 #[.pointer (some ⟨rb, 0, none⟩)] w fun e w' => e = .returned (.int .i64 0) /\ ∃ n' sv', Dev w' dp ib mb cap n' (.map []) (S.set (fi + 1 + tk) (frameE (crcF T) 2 h.seq ((fi : Int) + 1 + (tk : Int)) (((st ++ List.replicate (padN st.length) 0).drop (tk * 59)).take 59))) (wn + 1) /\
      Rgn w' rb dp pb h l (st ++ List.replicate (padN st.length) 0) (tk + 1) sv' /\ Fr (fun j => pkF pb sv j \/ devF dp ib mb j) w w' /\ (∀ b, sv'.ownBlock = some b -> sv.ownBlock = some b \/ w.heap.size <= b) := by
  have r7 : w.cell? ⟨rb, 7, none⟩ = some (.pointer (some ⟨pb, 0, none⟩)) := qB r.blk
  have PD := hid (ppad8 pb l _ _ st tk sv w r.pk)
  have hpl : (st ++ List.replicate (padN st.length) (0 : Int)).length = (tk + 1) * 59 := by
    rw [List.length_append, List.length_replicate]; unfold padN; omega
  obtain ⟨Q, hQ⟩ : ∃ Q, st ++ List.replicate (padN st.length) (0 : Int) = Q := ⟨_, rfl⟩
  rw [hQ] at PD hpl ⊢
  have FL := hid (fun (W : World) (sv' : Value) (hR : Rgn W rb dp pb h l Q tk sv') (hD : Dev W dp ib mb cap n D S wn) (hT : CrcT T W) (hdis : ∀ j, regF rb pb sv' j -> ¬ devF dp ib mb j) => rflush1 T rb dp pb ib mb cap n D S wn fi h l Q tk sv' W hR hD hT (by omega) (by omega) hfi hS hwr hdis)
  obtain ⟨E, hE⟩ : ∃ E, frameE (crcF T) 2 h.seq ((fi : Int) + 1 + (tk : Int)) ((Q.drop (tk * 59)).take 59) = E := ⟨_, rfl⟩
  rw [hE] at FL ⊢
  have HD := hid hd
  have HR := hid r
  have HT := hid hT
  have HDIS := hid hdis
  have hrl := lB r.blk
  have HZ := hid hz
  clear r h0 h1 hE hd hT hdis hpl hfi hQ hz
  go_enter Tryz.func117, Tryz.ntmps117
  go_wp2_with fail
  with_reducible refine PD.out.mono ?_
  rintro e w1 ⟨rfl, sv', hp, hf, hn⟩
  have R1 := hid (show Rgn w1 rb dp pb h l Q tk sv' from ⟨by rw [hf.block rb hrl HR.out.ne]; exact HR.out.blk, hp, fun hj => hj.elim (fun e => HR.out.ne (.inl e)) (fun e => (hn rb e).elim (fun h => HR.out.ne (.inr h)) (fun h => by omega))⟩)
  have D1 := hid (HD.out.fr hf (fun j hj e => HDIS.out j (.inr e) hj))
  have T1 := hid (show CrcT T w1 from ⟨fun i hi => by rw [hf.keep HT.out.lt (fun hj => by have := HZ.out.2 0 hj; omega)]; exact HT.out.cell i hi⟩)
  have DIS1 := hid (show ∀ j, regF rb pb sv' j -> ¬ devF dp ib mb j from fun j hj hd => by
    rcases hj with rfl | rfl | hj
    · exact HDIS.out _ (.inl rfl) hd
    · exact HDIS.out _ (.inr (.inl rfl)) hd
    · rcases hn j hj with h1 | h1
      · exact HDIS.out j (.inr (.inr h1)) hd
      · have := HD.out.lt j hd; omega)
  have FL1 := hid (FL.out w1 sv' R1.out D1.out T1.out DIS1.out)
  have F1 := hid hf
  have N1 := hid hn
  clear hp hf hn FL r7
  go_wp2_with fail
  with_reducible refine FL1.out.mono ?_
  rintro e w2 ⟨rfl, n2, D2, hd2, hr2, hf2⟩
  have BA := hid (barrierD dp ib mb cap n2 D2 _ (wn + 1) w2 hd2)
  have r0 : w2.cell? ⟨rb, 0, none⟩ = some (.pointer (some ⟨dp, 0, none⟩)) := qB hr2.blk
  have R2 := hid hr2
  have F2 := hid ((F1.out.mono (T := fun j => pkF pb sv j \/ devF dp ib mb j) (fun j _ hj => .inl hj)).trans hf2 (fun j hj => .inl (hj.imp (fun e => .inl e) id)))
  clear hd2 hr2 hf2
  go_wp2_with fail
  with_reducible refine BA.out.mono ?_
  rintro e w3 ⟨rfl, hd3, hf3⟩
  have HD3 := hid hd3
  have HF3 := hid hf3
  clear hd3 hf3
  go_wp2_with fail
  go_ret
  exact ⟨rfl, n2, sv', HD3.out, R2.out.fr HF3.out DIS1.out, F2.out.trans HF3.out (fun j hj => .inl (.inr hj)), N1.out⟩
end Go.Proofs.YtbikkioipamlmaaGreatDoor
namespace Go.Proofs.YtbikkioipamlmaaGreatDoor
open Go.Maps Go.RowKit T16
theorem fr_cell {S : Nat -> Prop} {w w' : World} (h : Fr S w w') {b : Nat} (hb : b < w.heap.size) (hn : ¬ S b) (i : Nat) : w'.cell? ⟨b, i, none⟩ = w.cell? ⟨b, i, none⟩ := World.cell?_of_block (a := ⟨b, i, none⟩) (h.block b hb hn)
def chL : Option (ByteArray × Ent) -> List C17.It
  | none => []
  | some (k, e) => [⟨e.seq, e.off, k⟩]
def quL : Option (ByteArray × Ent) -> List Q18.Item
  | none => []
  | some (k, e) => if e.exp < 1 then [] else [⟨k, e.exp⟩]
structure IxQ (w : World) (tb cb qb : Nat) (m : Option (ByteArray × Ent)) (ql : List Q18.Item) (N : Nat) (P Q R : Nat -> Prop) : Prop where
  t : tabP tb m N w P
  c : C17.Ch w cb N (chL m) Q
  q : Q18.QOk w qb N R ql
  pq : ∀ j, P j -> ¬ Q j
  pr : ∀ j, P j -> ¬ R j
  qr : ∀ j, Q j -> ¬ R j
abbrev Ix (w : World) (tb cb qb : Nat) (m : Option (ByteArray × Ent)) (N : Nat) (P Q R : Nat -> Prop) : Prop := IxQ w tb cb qb m (quL m) N P Q R
def ixF (P Q R : Nat -> Prop) : Nat -> Prop := fun j => P j \/ Q j \/ R j
theorem IxQ.lt {w : World} {tb cb qb : Nat} {m : Option (ByteArray × Ent)} {ql : List Q18.Item} {N : Nat} {P Q R : Nat -> Prop} (h : IxQ w tb cb qb m ql N P Q R) : ∀ j, ixF P Q R j -> j < w.heap.size := by
  rintro j (hj | hj | hj)
  · exact h.t.lt j hj
  · exact h.c.lt j hj
  · exact h.q.lt j hj
theorem IxQ.fr {w w' : World} {tb cb qb : Nat} {m : Option (ByteArray × Ent)} {ql : List Q18.Item} {N : Nat} {P Q R S : Nat -> Prop} (h : IxQ w tb cb qb m ql N P Q R) (hf : Fr S w w') (hd : ∀ j, ixF P Q R j -> ¬ S j) : IxQ w' tb cb qb m ql N P Q R :=
  ⟨h.t.fr hf (fun j hj => hd j (.inl hj)), h.c.frame hf (fun j hj => hd j (.inr (.inl hj))), h.q.frame hf (fun j hj => hd j (.inr (.inr hj))), h.pq, h.pr, h.qr⟩
theorem iadd8 (sb tb cb qb N : Nat) (k : ByteArray) (x : Ent) (w : World) (P Q R : Nat -> Prop) (hc0 : w.cell? ⟨sb, 0, none⟩ = some (.pointer (some ⟨tb, 0, none⟩))) (hc1 : w.cell? ⟨sb, 1, none⟩ = some (.pointer (some ⟨cb, 0, none⟩))) (hc2 : w.cell? ⟨sb, 2, none⟩ = some (.pointer (some ⟨qb, 0, none⟩)))
    (h : Ix w tb cb qb none N P Q R) (hsb : ¬ ixF P Q R sb) (hk : k.size <= maxLen) (hN : N <= 1000) (w0 : (Lit.int .i64 x.seq).wf = true) (w1 : (Lit.int .i64 x.off).wf = true) (w2 : (Lit.int .i64 x.exp).wf = true) :
    Calls prog 177 #[.pointer (some ⟨sb, 0, none⟩), .agg #[.string k, .int .i64 x.seq, .int .i64 x.off, .int .i64 x.len, .int .i64 x.exp, .bool x.hit]] w fun e w' => e = .returned (.tuple #[]) /\
      ∃ P' Q' R', Ix w' tb cb qb (some (k, x)) (N + 1) P' Q' R' /\ Fr (ixF P Q R) w w' /\ ∀ j, ixF P' Q' R' j -> ixF P Q R j \/ w.heap.size <= j := by
  have hsl : sb < w.heap.size := World.block_lt_of_cell? _ _ hc0
  have hk63 : k.size <= 9223372036854775807 := by unfold maxLen at hk; omega
  obtain ⟨wb, hwb⟩ : ∃ wb, w.alloc (.cells #[.string k, .int .i64 x.seq, .int .i64 x.off, .int .i64 x.len, .int .i64 x.exp, .bool x.hit] 112) = wb := ⟨_, rfl⟩
  have hbb : Below w.heap.size w wb := by rw [<- hwb]; exact (Below.refl _ _).alloc (Nat.le_refl _) _
  have hnb : wb.heap[w.heap.size]? = some (.cells #[.string k, .int .i64 x.seq, .int .i64 x.off, .int .i64 x.len, .int .i64 x.exp, .bool x.hit] 112 (0, 0)) := by rw [<- hwb]; exact nB w _
  have hszb : wb.heap.size = w.heap.size + 1 := by rw [<- hwb]; simp
  have H0 := hid (h.fr (S := fun _ => False) (Fr.of_below hbb) (fun _ _ f => f))
  have HLT := hid h.lt
  have K := hid (show ∀ W, Fr (ixF P Q R) wb W -> (W.cell? ⟨sb, 0, none⟩ = some (.pointer (some ⟨tb, 0, none⟩)) /\ W.cell? ⟨sb, 1, none⟩ = some (.pointer (some ⟨cb, 0, none⟩)) /\ W.cell? ⟨sb, 2, none⟩ = some (.pointer (some ⟨qb, 0, none⟩)) /\ W.cell? ⟨w.heap.size, 0, none⟩ = some (.string k) /\ W.cell? ⟨w.heap.size, 1, none⟩ = some (.int .i64 x.seq) /\ W.cell? ⟨w.heap.size, 2, none⟩ = some (.int .i64 x.off) /\ W.cell? ⟨w.heap.size, 3, none⟩ = some (.int .i64 x.len) /\ W.cell? ⟨w.heap.size, 4, none⟩ = some (.int .i64 x.exp) /\ W.cell? ⟨w.heap.size, 5, none⟩ = some (.bool x.hit)) from fun W hW =>
    have e := (hW.block w.heap.size (by omega) (fun hj => by have := HLT.out _ hj; omega)).trans hnb
    have c : ∀ i, W.cell? ⟨sb, i, none⟩ = wb.cell? ⟨sb, i, none⟩ := fun i => fr_cell hW (by omega) hsb i
    have d : ∀ i, wb.cell? ⟨sb, i, none⟩ = w.cell? ⟨sb, i, none⟩ := fun i => hbb.cell (p := ⟨sb, i, none⟩) hsl
    ⟨(c 0).trans ((d 0).trans hc0), (c 1).trans ((d 1).trans hc1), (c 2).trans ((d 2).trans hc2), qB e, qB e, qB e, qB e, qB e, qB e⟩)
  have IR := hid (iremove0 sb tb N k wb P (K.out _ (Fr.refl _ _)).1 H0.out.t hk63)
  obtain ⟨s0, s1, s2, p0, p1, p2, p3, p4, p5⟩ := K.out _ (Fr.refl _ _)
  have BB := hid hbb
  have SZB := hid hszb
  have HSB := hid hsb
  clear hc0 hc1 hc2 h hsb hbb hnb hszb
  go_enter Tryz.func177, Tryz.ntmps177
  go_wp2_with fail
  (try rw [hwb])
  clear hwb
  with_reducible refine IR.out.mono ?_
  rintro e x1 ⟨rfl, P1, t1, f1, n1⟩
  have F1 := hid f1
  have N1 := hid n1
  have HP := hid (show ∀ j, P j -> ixF P Q R j from fun j hj => .inl hj)
  have FX1 := hid (show Fr (ixF P Q R) wb x1 from f1.mono (fun j _ hj => .inl hj))
  have NX1 := hid (show ∀ j, P1 j -> ixF P Q R j \/ wb.heap.size <= j from fun j hj => (n1 j hj).imp (fun h => .inl h) id)
  have SE := hid (tset8 tb none N k x x1.drew P1 (t1.fr (S := fun _ => False) (Fr.of_below (Below.refl _ _).drew) (fun _ _ f => f)) hk63 (by omega) (.inl rfl))
  unfold entV at SE
  have K1 := hid (K.out x1.drew FX1.out.drew)
  clear t1 f1 n1 s0 s1 s2 p0 p1 p2 p3 p4 p5 IR
  go_upto_region 2 with fail
  go_region_held3 (fun w' => w'.cell? ⟨sb, 0, none⟩ = some (.pointer (some ⟨tb, 0, none⟩)) /\ w'.cell? ⟨sb, 1, none⟩ = some (.pointer (some ⟨cb, 0, none⟩)) /\ w'.cell? ⟨sb, 2, none⟩ = some (.pointer (some ⟨qb, 0, none⟩)) /\ w'.cell? ⟨w.heap.size, 0, none⟩ = some (.string k) /\ w'.cell? ⟨w.heap.size, 1, none⟩ = some (.int .i64 x.seq) /\ w'.cell? ⟨w.heap.size, 2, none⟩ = some (.int .i64 x.off) /\ w'.cell? ⟨w.heap.size, 3, none⟩ = some (.int .i64 x.len) /\ w'.cell? ⟨w.heap.size, 4, none⟩ = some (.int .i64 x.exp) /\ w'.cell? ⟨w.heap.size, 5, none⟩ = some (.bool x.hit)) (first | with_reducible exact hS2 | with_reducible exact K1.out)
    (first
      | ((go_at_call 132); (with_reducible refine SE.out.mono ?_); (rintro e x2 ⟨rfl, P2, t2, f2, n2⟩); (have hS2 := K.out _ (FX1.out.trans (fr_undrew f2) NX1.out))))
  have FX2 := hid (FX1.out.trans (fr_undrew f2) NX1.out)
  have F2 := hid (F1.out.trans (fr_undrew f2) N1.out)
  have N2 := hid (show ∀ j, P2 j -> P j \/ wb.heap.size <= j from fun j hj => (n2 j hj).elim (fun h => N1.out j h) (fun h => .inr (Nat.le_trans F1.out.size h)))
  have T2 := hid t2
  have C2 := hid (H0.out.c.frame F2.out (fun j hj hp => H0.out.pq j hp hj))
  have AD := hid (C17.add7 cb N Q [] x.seq x.off k x2.drew w0 w1 hk (by omega) C17.AscI.nil (C2.out.below (Below.refl _ _).drew))
  have K2 := hid (K.out x2.drew FX2.out.drew)
  clear t2 f2 n2 hS2 SE K1
  go_upto_region 3 with fail
  go_region_held3 (fun w' => w'.cell? ⟨sb, 0, none⟩ = some (.pointer (some ⟨tb, 0, none⟩)) /\ w'.cell? ⟨sb, 1, none⟩ = some (.pointer (some ⟨cb, 0, none⟩)) /\ w'.cell? ⟨sb, 2, none⟩ = some (.pointer (some ⟨qb, 0, none⟩)) /\ w'.cell? ⟨w.heap.size, 0, none⟩ = some (.string k) /\ w'.cell? ⟨w.heap.size, 1, none⟩ = some (.int .i64 x.seq) /\ w'.cell? ⟨w.heap.size, 2, none⟩ = some (.int .i64 x.off) /\ w'.cell? ⟨w.heap.size, 3, none⟩ = some (.int .i64 x.len) /\ w'.cell? ⟨w.heap.size, 4, none⟩ = some (.int .i64 x.exp) /\ w'.cell? ⟨w.heap.size, 5, none⟩ = some (.bool x.hit)) (first | with_reducible exact hS3 | with_reducible exact K2.out)
    (first
      | ((go_at_call 246); (with_reducible refine AD.out.mono ?_); (rintro e x3 ⟨rfl, Q3, c3, f3, n3⟩); (have hS3 := K.out _ (FX2.out.trans (fr_undrew f3) (fun j hj => .inl (.inr (.inl hj)))))))
  have FX3 := hid (FX2.out.trans (fr_undrew f3) (fun j hj => .inl (.inr (.inl hj))))
  have F3 := hid (show Fr (fun j => P j \/ Q j) wb x3 from (F2.out.mono (fun j _ hj => .inl hj)).trans (fr_undrew f3) (fun j hj => .inl (.inr hj)))
  have N3 := hid (show ∀ j, Q3 j -> Q j \/ wb.heap.size <= j from fun j hj => (n3 j hj).imp id (fun h => Nat.le_trans F2.out.size h))
  have hQl := H0.out.c.lt
  have T3 := hid (T2.out.fr (fr_undrew f3) (fun j hj hq => (N2.out j hj).elim (fun h => H0.out.pq j h hq) (fun h => by have := hQl j hq; omega)))
  have C3 := hid (show C17.Ch x3 cb (N + 1) [⟨x.seq, x.off, k⟩] Q3 from c3)
  have Q3' := hid (H0.out.q.frame F3.out (fun j hj hp => hp.elim (fun h => H0.out.pr j h hj) (fun h => H0.out.qr j h hj)))
  have PU := hid (Q18.qput qb N R [] k x.exp x3.drew (by omega) hk w2 (Q3'.out.frame (T := fun _ => False) (Fr.of_below (Below.refl _ _).drew) (fun _ _ f => f)))
  have K3 := hid (K.out x3.drew FX3.out.drew)
  have N23 := hid (show ∀ j, P2 j -> ¬ Q3 j from fun j hp hq => (n3 j hq).elim (fun h => (N2.out j hp).elim (fun h2 => H0.out.pq j h2 h) (fun h2 => by have := hQl j h; omega)) (fun h => by
    have h1 := T2.out.lt j hp
    have h2 : x2.heap.size <= j := h
    omega))
  have hx23 := hid (show x2.heap.size <= x3.heap.size from f3.size)
  clear c3 f3 n3 hS3 AD K2
  go_upto_region 4 with fail
  go_region_held3 (fun w' => w'.cell? ⟨sb, 0, none⟩ = some (.pointer (some ⟨tb, 0, none⟩)) /\ w'.cell? ⟨sb, 1, none⟩ = some (.pointer (some ⟨cb, 0, none⟩)) /\ w'.cell? ⟨sb, 2, none⟩ = some (.pointer (some ⟨qb, 0, none⟩)) /\ w'.cell? ⟨w.heap.size, 0, none⟩ = some (.string k) /\ w'.cell? ⟨w.heap.size, 1, none⟩ = some (.int .i64 x.seq) /\ w'.cell? ⟨w.heap.size, 2, none⟩ = some (.int .i64 x.off) /\ w'.cell? ⟨w.heap.size, 3, none⟩ = some (.int .i64 x.len) /\ w'.cell? ⟨w.heap.size, 4, none⟩ = some (.int .i64 x.exp) /\ w'.cell? ⟨w.heap.size, 5, none⟩ = some (.bool x.hit)) (first | with_reducible exact hS4 | with_reducible exact K3.out)
    (first
      | ((go_at_call 247); (with_reducible refine PU.out.mono ?_); (rintro e x4 ⟨rfl, R4, q4, f4, n4⟩); (have hS4 := K.out _ (FX3.out.trans (fr_undrew f4) (fun j hj => .inl (.inr (.inr hj)))))))
  have F4 := hid (FX3.out.trans (fr_undrew f4) (fun j hj => .inl (.inr (.inr hj))))
  have f4' := fr_undrew f4
  have hRl := H0.out.q.lt
  have T4 := hid (T3.out.fr f4' (fun j hj hr => (N2.out j hj).elim (fun h => H0.out.pr j h hr) (fun h => by have := hRl j hr; omega)))
  have C4 := hid (C3.out.frame f4' (fun j hj hr => (N3.out j hj).elim (fun h => H0.out.qr j h hr) (fun h => by have := hRl j hr; omega)))
  have N4 := hid (show ∀ j, R4 j -> R j \/ x3.heap.size <= j from fun j hj => n4 j hj)
  have I4 := hid (show Ix x4 tb cb qb (some (k, x)) (N + 1) P2 Q3 R4 from ⟨T4.out, C4.out, q4, N23.out,
    fun j hp hr => (N4.out j hr).elim (fun h => (N2.out j hp).elim (fun h2 => H0.out.pr j h2 h) (fun h2 => by have := hRl j h; omega)) (fun h => by
      have h1 := T2.out.lt j hp
      have h2 := hx23.out
      omega),
    fun j hq hr => (N4.out j hr).elim (fun h => (N3.out j hq).elim (fun h2 => H0.out.qr j h2 h) (fun h2 => by have := hRl j h; omega)) (fun h => by
      have h1 := C3.out.lt j hq
      omega)⟩)
  have E4 := hid (show ∀ j, ixF P2 Q3 R4 j -> ixF P Q R j \/ w.heap.size <= j from fun j hj => by
    have h1 := BB.out.size
    have h2 := FX3.out.size
    rcases hj with hj | hj | hj
    · exact (N2.out j hj).imp (fun h => .inl h) (fun h => Nat.le_trans h1 h)
    · exact (N3.out j hj).imp (fun h => .inr (.inl h)) (fun h => Nat.le_trans h1 h)
    · exact (N4.out j hj).imp (fun h => .inr (.inr h)) (fun h => Nat.le_trans (Nat.le_trans h1 h2) h))
  have FW := hid ((Fr.of_below (S := ixF P Q R) BB.out).trans F4.out (fun j hj => .inl hj))
  clear q4 f4 n4 f4' hS4
  go_wp2_with fail
  go_end0
  exact ⟨rfl, P2, Q3, R4, I4.out, FW.out, E4.out⟩
theorem rm_one (s o : Int) (k : ByteArray) : C17.rmI [⟨s, o, k⟩] s o = [] := by simp [C17.rmI, C17.atB]
theorem iremove1 (sb tb cb qb N : Nat) (k : ByteArray) (x : Ent) (w : World) (P Q R : Nat -> Prop) (hc0 : w.cell? ⟨sb, 0, none⟩ = some (.pointer (some ⟨tb, 0, none⟩))) (hc1 : w.cell? ⟨sb, 1, none⟩ = some (.pointer (some ⟨cb, 0, none⟩))) (hc2 : w.cell? ⟨sb, 2, none⟩ = some (.pointer (some ⟨qb, 0, none⟩)))
    (ql : List Q18.Item) (hql : Q18.remL ql k = []) (h : IxQ w tb cb qb (some (k, x)) ql N P Q R) (hsb : ¬ ixF P Q R sb) (hk : k.size <= maxLen) (hN : N <= 1000) (w0 : (Lit.int .i64 x.seq).wf = true) (w1 : (Lit.int .i64 x.off).wf = true) :
    Calls prog 149 #[.pointer (some ⟨sb, 0, none⟩), .string k] w fun e w' => e = .returned (.tuple #[]) /\
      ∃ P' Q' R', Ix w' tb cb qb none N P' Q' R' /\ Fr (ixF P Q R) w w' /\ ∀ j, ixF P' Q' R' j -> ixF P Q R j \/ w.heap.size <= j := by
  have hsl : sb < w.heap.size := World.block_lt_of_cell? _ _ hc0
  have hk63 : k.size <= 9223372036854775807 := by unfold maxLen at hk; omega
  have H0 := hid h
  have HQL := hid hql
  have hPl := h.t.lt
  have hQl := h.c.lt
  have hRl := h.q.lt
  have PL := hid hPl
  have QL := hid hQl
  have RL := hid hRl
  have K := hid (show ∀ W, Fr (ixF P Q R) w W -> (W.cell? ⟨sb, 0, none⟩ = some (.pointer (some ⟨tb, 0, none⟩)) /\ W.cell? ⟨sb, 1, none⟩ = some (.pointer (some ⟨cb, 0, none⟩)) /\ W.cell? ⟨sb, 2, none⟩ = some (.pointer (some ⟨qb, 0, none⟩))) from fun W hW =>
    have c : ∀ i, W.cell? ⟨sb, i, none⟩ = w.cell? ⟨sb, i, none⟩ := fun i => fr_cell hW hsl hsb i
    ⟨(c 0).trans hc0, (c 1).trans hc1, (c 2).trans hc2⟩)
  have G := hid (tget8 tb (some (k, x)) N k w P h.t hk63)
  have HSL := hid hsl
  clear hc1 hc2 h hsb hPl hQl hRl hql
  go_enter Tryz.func149, Tryz.ntmps149
  go_wp2_with fail
  with_reducible refine G.out.mono ?_
  rintro e x1 ⟨b, y, rfl, ⟨P1, t1, f1, n1⟩, hb1, hb0⟩
  cases b with
  | false => exact absurd rfl ((hb0 rfl).1 x)
  | true =>
    obtain rfl : x = y := by
      have h9 := hb1 rfl
      injection h9 with h9
      injection h9
    clear hb1 hb0
    have T1 := hid t1
    have F1 := hid f1
    have N1 := hid n1
    have FX1 := hid (show Fr (ixF P Q R) w x1 from f1.mono (fun j _ hj => .inl hj))
    have hba : ∀ o : Obj, Below x1.heap.size x1 (x1.alloc o) := fun o => (Below.refl _ _).alloc (Nat.le_refl _) _
    have BA := hid hba
    obtain ⟨k0, k1, k2⟩ := K.out x1 FX1.out
    have hsl1 : sb < x1.heap.size := Nat.lt_of_lt_of_le HSL.out f1.size
    clear t1 f1 n1 hba hc0
    unfold entV
    have DL := hid (fun (o : Obj) => tdel8 tb N k x (x1.alloc o) P1 (T1.out.fr (S := fun _ => False) (Fr.of_below (BA.out o)) (fun _ _ f => f)) hk63)
    go_wp2_with fail
    with_reducible refine (DL.out _).mono ?_
    rintro e x2 ⟨b2, rfl, P2, t2, f2, n2⟩
    have hT1 := T1.out.lt
    have FX2 := hid ((FX1.out.alloc _).trans f2 (fun j hj => (N1.out j hj).imp (fun h => .inl h) id))
    have F2 := hid ((F1.out.alloc _).trans f2 N1.out)
    have N2 := hid (show ∀ j, P2 j -> P j \/ w.heap.size <= j from fun j hj => (n2 j hj).elim (fun h => N1.out j h) (fun h => .inr (Nat.le_trans (Nat.le_trans F1.out.size (BA.out _).size) h)))
    have T2 := hid t2
    have HB2 := hid ((f2.block x1.heap.size (by simp) (fun h => by have := hT1 _ h; omega)).trans (nB x1 _))
    have hx12 := F1.out.size
    have X12 := hid hx12
    have KE := hid (show ∀ W, Fr Q x2 W -> W.cell? ⟨sb, 1, none⟩ = some (.pointer (some ⟨cb, 0, none⟩)) /\ W.cell? ⟨x1.heap.size, 0, none⟩ = some (.int .i64 x.seq) /\ W.cell? ⟨x1.heap.size, 1, none⟩ = some (.int .i64 x.off) from fun W hW =>
      have e := (hW.block x1.heap.size (lB HB2.out) (fun h => by have := QL.out _ h; omega)).trans HB2.out
      ⟨(K.out W (FX2.out.trans hW (fun j hj => .inl (.inr (.inl hj))))).2.1, qB e, qB e⟩)
    have K2 := hid (KE.out x2.drew (Fr.of_below (Below.refl _ _).drew))
    have C2 := hid (H0.out.c.frame F2.out (fun j hj hp => H0.out.pq j hp hj))
    have RM := hid (C17.remove12 cb N Q _ x.seq x.off x2.drew w0 w1 (by omega) (List.pairwise_singleton _ _) (C2.out.below (Below.refl _ _).drew))
    have kk := K.out x2 FX2.out
    clear t2 f2 n2 DL hT1 k0 k1 k2 hsl1 hx12
    go_upto_region 3 with fail
    go_region_held3 (fun w' => w'.cell? ⟨sb, 1, none⟩ = some (.pointer (some ⟨cb, 0, none⟩)) /\ w'.cell? ⟨x1.heap.size, 0, none⟩ = some (.int .i64 x.seq) /\ w'.cell? ⟨x1.heap.size, 1, none⟩ = some (.int .i64 x.off)) (first | with_reducible exact hS3 | with_reducible exact K2.out)
      (first
        | ((go_at_call 221); (with_reducible refine RM.out.mono ?_); (rintro e x3 ⟨rfl, Q3, c3, f3, n3⟩); (have hS3 := KE.out _ (fr_undrew f3))))
    have f3' := fr_undrew f3
    have FX3 := hid (FX2.out.trans f3' (fun j hj => .inl (.inr (.inl hj))))
    have F3 := hid (show Fr (fun j => P j \/ Q j) w x3 from (F2.out.mono (fun j _ hj => .inl hj)).trans f3' (fun j hj => .inl (.inr hj)))
    have N3 := hid (show ∀ j, Q3 j -> Q j \/ w.heap.size <= j from fun j hj => (n3 j hj).imp id (fun h => Nat.le_trans F2.out.size h))
    have T3 := hid (T2.out.fr f3' (fun j hj hq => (N2.out j hj).elim (fun h => H0.out.pq j h hq) (fun h => by have := QL.out j hq; omega)))
    have C3 := hid (show C17.Ch x3 cb N [] Q3 from rm_one x.seq x.off k ▸ c3)
    have Q3' := hid (H0.out.q.frame F3.out (fun j hj hp => hp.elim (fun h => H0.out.pr j h hj) (fun h => H0.out.qr j h hj)))
    have QM := hid (Q18.qremove qb N R _ k hk x3 Q3'.out)
    have N23 := hid (show ∀ j, P2 j -> ¬ Q3 j from fun j hp hq => (n3 j hq).elim (fun h => (N2.out j hp).elim (fun h2 => H0.out.pq j h2 h) (fun h2 => by have := QL.out j h; omega)) (fun h => by
      have h1 := T2.out.lt j hp
      have h2 : x2.heap.size <= j := h
      omega))
    obtain ⟨k0, k1, k2⟩ := K.out x3 FX3.out
    have hsl3 : sb < x3.heap.size := Nat.lt_of_lt_of_le HSL.out FX3.out.size
    clear c3 f3 n3 hS3 RM K2 f3' kk
    go_wp2_with fail
    with_reducible refine QM.out.mono ?_
    rintro e x4 ⟨rfl, q4, f4⟩
    rw [HQL.out] at q4
    have F4 := hid (FX3.out.trans f4 (fun j hj => .inl (.inr (.inr hj))))
    have T4 := hid (T3.out.fr f4 (fun j hj hr => (N2.out j hj).elim (fun h => H0.out.pr j h hr) (fun h => by have := RL.out j hr; omega)))
    have C4 := hid (C3.out.frame f4 (fun j hj hr => (N3.out j hj).elim (fun h => H0.out.qr j h hr) (fun h => by have := RL.out j hr; omega)))
    have I4 := hid (show Ix x4 tb cb qb none N P2 Q3 R from ⟨T4.out, C4.out, q4, N23.out,
      fun j hp hr => (N2.out j hp).elim (fun h2 => H0.out.pr j h2 hr) (fun h2 => by have := RL.out j hr; omega),
      fun j hq hr => (N3.out j hq).elim (fun h2 => H0.out.qr j h2 hr) (fun h2 => by have := RL.out j hr; omega)⟩)
    have E4 := hid (show ∀ j, ixF P2 Q3 R j -> ixF P Q R j \/ w.heap.size <= j from fun j hj => by
      rcases hj with hj | hj | hj
      · exact (N2.out j hj).imp (fun h => .inl h) id
      · exact (N3.out j hj).imp (fun h => .inr (.inl h)) id
      · exact .inl (.inr (.inr hj)))
    clear q4 f4
    go_wp2_with fail
    go_end0
    exact ⟨rfl, P2, Q3, R, I4.out, F4.out, E4.out⟩
theorem iempty8 (sb : Nat) (cs : Array Value) (t : TypeId) (w : World) (hb : w.heap[sb]? = some (.cells cs t (0, 0))) (hs : 3 <= cs.size) :
    Calls prog 176 #[.pointer (some ⟨sb, 0, none⟩)] w fun e w' => e = .returned (.tuple #[]) /\ ∃ tb cb qb P Q R, Ix w' tb cb qb none 0 P Q R /\ (∀ j, ixF P Q R j -> w.heap.size <= j) /\ Fr (fun j => j = sb) w w' /\
      w'.heap[sb]? = some (.cells (((cs.setIfInBounds 0 (.pointer (some ⟨tb, 0, none⟩))).setIfInBounds 1 (.pointer (some ⟨cb, 0, none⟩))).setIfInBounds 2 (.pointer (some ⟨qb, 0, none⟩))) t (0, 0)) := by
  have hsl := lB hb
  have HB := hid hb
  obtain ⟨v0, hv0⟩ : ∃ v, cs[0]? = some v := ⟨_, Array.getElem?_eq_getElem (by omega)⟩
  obtain ⟨v1, hv1⟩ : ∃ v, cs[1]? = some v := ⟨_, Array.getElem?_eq_getElem (by omega)⟩
  obtain ⟨v2, hv2⟩ : ∃ v, cs[2]? = some v := ⟨_, Array.getElem?_eq_getElem (by omega)⟩
  have K := hid (show ∀ W : World, W.heap[sb]? = some (.cells cs t (0, 0)) -> (W.cell? ⟨sb, 0, none⟩ = some v0 /\ W.cell? ⟨sb, 1, none⟩ = some v1 /\ W.cell? ⟨sb, 2, none⟩ = some v2) /\ W.frozen? ⟨sb, 0, none⟩ = false /\ W.frozen? ⟨sb, 1, none⟩ = false /\ W.frozen? ⟨sb, 2, none⟩ = false from fun W e =>
    ⟨⟨(qB e).trans hv0, (qB e).trans hv1, (qB e).trans hv2⟩, zB e, zB e, zB e⟩)
  clear hb hv0 hv1 hv2
  go_enter Tryz.func176, Tryz.ntmps176
  go_wp2_with fail
  with_reducible refine (new_ob w).mono ?_
  rintro e w1 ⟨tb, T, rfl, o1, n1, m1⟩
  obtain ⟨vn, vo, t1, ti, hn, hb1⟩ := o1
  have TP := hid (show tabP tb none 0 w1 (tfoot tb vn vo) from ⟨vn, vo, T, t1, ti, fun k e => ⟨fun h => absurd h (m1 k e), fun h => by cases h⟩, by omega, rfl⟩)
  have TN := hid hn
  have B1 := hid hb1
  clear n1 m1 t1 ti hn hb1
  go_wp2_with fail
  with_reducible refine (C17.new6 _).mono ?_
  rintro e w2 ⟨cb, Q, rfl, c2, hb2, hn2⟩
  have C2 := hid c2
  have CN := hid hn2
  have B2 := hid hb2
  clear c2 hb2 hn2
  go_wp2_with fail
  with_reducible refine (Q18.new7 _).mono ?_
  rintro e w3 ⟨qb, R, rfl, q3, f3, n3⟩
  have B13 := hid (tB B1.out B2.out)
  have F3 := hid f3
  have HB3 := hid (show w3.heap[sb]? = some (.cells cs t (0, 0)) from (f3.block sb (Nat.lt_of_lt_of_le hsl B13.out.size) (fun h => h)).trans ((B13.out.block sb hsl).trans HB.out))
  obtain ⟨⟨c0, c1, c2⟩, g0, g1, g2⟩ := K.out w3 HB3.out
  have T3 := hid ((TP.out.fr (S := fun _ => False) (Fr.of_below B2.out) (fun _ _ f => f)).fr f3 (fun _ _ f => f))
  have C3 := hid (C2.out.frame f3 (fun _ _ f => f))
  have QQ := hid q3
  have QN := hid n3
  have I3 := hid (show Ix w3 tb cb qb none 0 (tfoot tb vn vo) Q R from ⟨T3.out, C3.out, q3,
    fun j hp hq => by have h1 := TP.out.lt j hp; have h2 := CN.out j hq; omega,
    fun j hp hr => by have h1 := TP.out.lt j hp; have h2 := QN.out j hr; have h3 := B2.out.size; omega,
    fun j hq hr => by have h1 := C2.out.lt j hq; have h2 := QN.out j hr; omega⟩)
  have NW := hid (show ∀ j, ixF (tfoot tb vn vo) Q R j -> w.heap.size <= j from fun j hj => by
    have h1 := B1.out.size
    have h2 := B2.out.size
    rcases hj with hj | hj | hj
    · exact TN.out j hj
    · exact Nat.le_trans h1 (CN.out j hj)
    · exact Nat.le_trans h1 (Nat.le_trans h2 (QN.out j hj)))
  have hsl3 : sb < w3.heap.size := lB HB3.out
  clear q3 f3 n3
  go_wp2_with fail
  go_end0
  have ff : Fr (fun j => j = sb) w3 (((w3.setCell ⟨sb, 0, none⟩ (.pointer (some ⟨tb, 0, none⟩))).setCell ⟨sb, 1, none⟩ (.pointer (some ⟨cb, 0, none⟩))).setCell ⟨sb, 2, none⟩ (.pointer (some ⟨qb, 0, none⟩))) := ((fS _ _ _ _).trans (fS _ _ _ _) (fun j hj => .inl hj)).trans (fS _ _ _ _) (fun j hj => .inl hj)
  have F13 : Fr (fun j => j = sb) w w3 := (Fr.of_below B13.out).trans (F3.out.mono (fun j _ hj => hj.elim)) (fun j hj => .inl hj)
  exact ⟨rfl, tb, cb, qb, _, Q, R, I3.out.fr ff (fun j hj e => by have := NW.out j hj; omega), NW.out, F13.trans ff (fun j hj => .inl hj), uB (uB (uB HB3.out _) _) _⟩
end Go.Proofs.YtbikkioipamlmaaGreatDoor
