/-
  Laws and contracts for the statement TopExpired.
-/
import Derived.Test.YtbikkioipamlmaaGreatDoorX24
open Go.Lib (hid)
open Go.Proofs.Tryz (prog)
set_option linter.unusedVariables false
set_option linter.unusedSimpArgs false
set_option maxRecDepth 100000
set_option maxHeartbeats 20000000
namespace Go.Proofs.YtbikkioipamlmaaGreatDoor
open Go.RowKit
theorem sl8info : (prog.info? 33).map (fun i => (i.zero, i.size, i.bytes)) = some (some (.slice none 0 0), 1, 24) := by kernel_rfl
theorem ptake0 (pb : Nat) (l : Lay) (first seq : Int) (st : List Int) (tk : Nat) (sv : Value) (w : World) (h : Pk w pb l first seq st tk sv) (h0 : st.length < (tk + 1) * 59) :
    Calls prog 263 #[.pointer (some ⟨pb, 0, none⟩)] w fun e w' => e = .returned (.tuple #[.slice none 0 0, .slice none 0 0]) /\ Below w.heap.size w w' := by
  obtain ⟨sa, sc, rfl, hr⟩ := h.own.rd
  have hcr := (capD_rng h.form).2
  have hrm := h.room
  have htk := h.tks
  have hb := h.blk
  have hlt := lB hb
  obtain ⟨sn, hsn⟩ : ∃ n, st.length = n := ⟨_, rfl⟩
  rw [hsn] at hb hrm h0 htk
  have htk2 : tk <= 2047 := by omega
  have K := hid (show ∀ W, Below w.heap.size w W -> W.cell? ⟨pb, 6, none⟩ = some (.slice sa sn sc) /\ W.cell? ⟨pb, 7, none⟩ = some (.int .i64 (tk : Int)) from fun W hW =>
    have e := (hW.block pb hlt).trans hb
    ⟨qB e, qB e⟩)
  have hw1 : IntKind.i64.wrap ((tk : Int) + 1) = (tk : Int) + 1 := by simp [IntKind.wrap, IntKind.bits, IntKind.signed]; omega
  have hw2 : IntKind.i64.wrap (((tk : Int) + 1) * 59) = ((tk : Int) + 1) * 59 := by simp [IntKind.wrap, IntKind.bits, IntKind.signed]; omega
  have d1 : decide (((tk : Int) + 1) * 59 <= (sn : Int)) = false := by simp; omega
  clear h hr hb hsn hcr hrm htk
  go_enter Tryz.func263, Tryz.ntmps263
  go_wp2_with fail
  go_loopw [2, 3] (fun v2 v3 wr => v2 = .slice none 0 0 /\ v3 = .slice none 0 0 /\ Below w.heap.size w wr) (fun _ _ _ => 0)
  case atStart => exact ⟨rfl, rfl, Below.refl _ _⟩
  case round =>
    obtain ⟨rfl, rfl, hb⟩ := hrel
    have K0 := hid (K.out _ hb.drew)
    have B0 := hid hb
    clear hb
    go_wp2_with fail
    go_region_held3 (fun w' => w'.cell? ⟨pb, 6, none⟩ = some (.slice sa sn sc) /\ w'.cell? ⟨pb, 7, none⟩ = some (.int .i64 (tk : Int))) (first | with_reducible exact K0.out) (fail)
    go_wp2_with fail
    go_ret2
    exact ⟨rfl, B0.out.drew⟩
theorem Pk.took {w : World} {pb : Nat} {l : Lay} {first seq : Int} {st : List Int} {tk : Nat} {sv : Value} (h : Pk w pb l first seq st tk sv) (ht : (tk + 1) * 59 <= st.length) (z : Int) (hz : z = ((tk + 1 : Nat) : Int)) : Pk (w.setCell ⟨pb, 7, none⟩ (.int .i64 z)) pb l first seq st (tk + 1) sv :=
  ⟨by subst hz; exact uB h.blk _, h.own.setOther (by omega) _ _, h.form, h.fst, h.sq, h.room, ht⟩
theorem ptake1 (T : Nat -> Int) (pb : Nat) (l : Lay) (first seq : Int) (st : List Int) (tk : Nat) (sv : Value) (w : World) (h : Pk w pb l first seq st tk sv) (hT : CrcT T w) (h0 : (tk + 1) * 59 <= st.length) (h1 : st.length < (tk + 2) * 59) :
    Calls prog 263 #[.pointer (some ⟨pb, 0, none⟩)] w fun e w' => ∃ g2 c2 g3 c3 af cf, e = .returned (.tuple #[.slice (some ⟨g2, 0, none⟩) 1 c2, .slice (some ⟨g3, 0, none⟩) 1 c3]) /\
      w'.cell? ⟨g2, 0, none⟩ = some (.int .i64 (first + 1 + (tk : Int))) /\ w'.cell? ⟨g3, 0, none⟩ = some (.slice af 64 cf) /\ (w.heap.size <= g2 /\ w.heap.size <= g3 /\ g2 < w'.heap.size /\ g3 < w'.heap.size) /\
      Own8 w.heap.size w' (.slice af 64 cf) (frameE (crcF T) 2 seq (first + 1 + (tk : Int)) ((st.drop (tk * 59)).take 59)) /\ Pk w' pb l first seq st (tk + 1) sv /\ Fr (fun j => j = pb) w w' := by
  obtain ⟨i0, hi, hz0, hz1, hz2⟩ := info_parts sl8info
  have I1 := hid hi; have I2 := hid hz0; have I3 := hid hz1; have I4 := hid hz2
  obtain ⟨j0, hj, hy0, hy1, hy2⟩ := info_parts intinfo
  have J1 := hid hj; have J2 := hid hy0; have J3 := hid hy1; have J4 := hid hy2
  obtain ⟨sa, sc, rfl, hr⟩ := h.own.rd
  have hcr := (capD_rng h.form).2
  have hrm := h.room
  have hfs := h.fst
  have hsq := h.sq
  have HP := hid h
  have hb := h.blk
  have hlt := lB hb
  obtain ⟨sn, hsn⟩ : ∃ n, st.length = n := ⟨_, rfl⟩
  have HSN := hid hsn
  rw [hsn] at hb hrm h0 h1 hr HP ⊢
  have htk2 : tk <= 2047 := by omega
  have hcl := hr.cap_le
  have RM := hid (show Rd8 w (lowA sa sc (tk * 59)) 59 (sc - tk * 59) ((st.drop (tk * 59)).take 59) from hr.mid (tk * 59) 59 (by omega))
  have S1 := fun W : World => slice_mid' sa sn sc ((tk : Int) * 59) (((tk : Int) + 1) * 59) (tk * 59) ((tk + 1) * 59) 59 (sc - tk * 59) (by omega) (by omega) (by omega) (by omega) (by omega) rfl W
  have K := hid (show ∀ W, Below w.heap.size w W -> W.cell? ⟨pb, 4, none⟩ = some (.int .i64 first) /\ W.cell? ⟨pb, 5, none⟩ = some (.int .i64 seq) /\ W.cell? ⟨pb, 6, none⟩ = some (.slice sa sn sc) /\ W.cell? ⟨pb, 7, none⟩ = some (.int .i64 (tk : Int)) from fun W hW =>
    have e := (hW.block pb hlt).trans hb
    ⟨qB e, qB e, qB e, qB e⟩)
  have hw1 : IntKind.i64.wrap ((tk : Int) + 1) = (tk : Int) + 1 := by simp [IntKind.wrap, IntKind.bits, IntKind.signed]; omega
  have hw2 : IntKind.i64.wrap (((tk : Int) + 1) * 59) = ((tk : Int) + 1) * 59 := by simp [IntKind.wrap, IntKind.bits, IntKind.signed]; omega
  have hw3 : IntKind.i64.wrap ((tk : Int) * 59) = (tk : Int) * 59 := by simp [IntKind.wrap, IntKind.bits, IntKind.signed]; omega
  have hw4 : IntKind.i64.wrap (first + 1) = first + 1 := by simp [IntKind.wrap, IntKind.bits, IntKind.signed]; omega
  have hw5 : IntKind.i64.wrap (first + 1 + (tk : Int)) = first + 1 + (tk : Int) := by simp [IntKind.wrap, IntKind.bits, IntKind.signed]; omega
  have hw6 : IntKind.i64.wrap ((tk : Int) + 1 + 1) = (tk : Int) + 1 + 1 := by simp [IntKind.wrap, IntKind.bits, IntKind.signed]; omega
  have hw7 : IntKind.i64.wrap (((tk : Int) + 1 + 1) * 59) = ((tk : Int) + 1 + 1) * 59 := by simp [IntKind.wrap, IntKind.bits, IntKind.signed]; omega
  have d1 : decide (((tk : Int) + 1) * 59 <= (sn : Int)) = true := by simp; omega
  have d2 : decide (((tk : Int) + 1 + 1) * 59 <= (sn : Int)) = false := by simp; omega
  obtain ⟨P, hPe⟩ : ∃ P, (st.drop (tk * 59)).take 59 = P := ⟨_, rfl⟩
  have hPl : P.length = 59 := by rw [<- hPe]; simp; omega
  rw [hPe] at RM ⊢
  have FE := hid (fun (W : World) (hT : CrcT T W) (hR : Rd8 W (lowA sa sc (tk * 59)) 59 (sc - tk * 59) P) => fenc8 T 2 seq (first + 1 + (tk : Int)) (lowA sa sc (tk * 59)) 59 (sc - tk * 59) P W hT hR (by unfold possP; omega) (by omega) (by omega))
  have HL := hid (frameE_length (crcF T) 2 seq (first + 1 + (tk : Int)) P (by omega))
  obtain ⟨E, hE⟩ : ∃ E, frameE (crcF T) 2 seq (first + 1 + (tk : Int)) P = E := ⟨_, rfl⟩
  rw [hE] at FE HL ⊢
  have HT := hid hT
  have HH0 := hid h0
  clear h hr hb hsn hcr hrm hcl hT hPe hPl hE hi hz0 hz1 hz2 hj hy0 hy1 hy2
  go_enter Tryz.func263, Tryz.ntmps263
  go_wp2_with fail
  go_loopw [2, 3] (fun v2 v3 wr => (v2 = .slice none 0 0 /\ v3 = .slice none 0 0 /\ Below w.heap.size w wr /\ wr.cell? ⟨pb, 7, none⟩ = some (.int .i64 (tk : Int))) \/ (∃ g2 c2 g3 c3 af cf, v2 = .slice (some ⟨g2, 0, none⟩) 1 c2 /\ v3 = .slice (some ⟨g3, 0, none⟩) 1 c3 /\
      wr.cell? ⟨g2, 0, none⟩ = some (.int .i64 (first + 1 + (tk : Int))) /\ wr.cell? ⟨g3, 0, none⟩ = some (.slice af 64 cf) /\ (w.heap.size <= g2 /\ w.heap.size <= g3 /\ g2 < wr.heap.size /\ g3 < wr.heap.size) /\
      Own8 w.heap.size wr (.slice af 64 cf) E /\ Pk wr pb l first seq st (tk + 1) (.slice sa sn sc) /\ Fr (fun j => j = pb) w wr)) (fun _ _ wr => tk + 1 - (intOf ((wr.cell? ⟨pb, 7, none⟩).getD undef)).toNat)
  case atStart => exact .inl ⟨rfl, rfl, Below.refl _ _, (K.out _ (Below.refl _ _)).2.2.2⟩
  case round =>
    rcases hrel with ⟨rfl, rfl, hb, h7⟩ | ⟨g2, c2, g3, c3, af, cf, rfl, rfl, e2, e3, hg, ho, hp, hf⟩
    · have KW := hid (show ∀ W, Below wr.heap.size wr W -> _ from fun W hW => K.out W (tB hb hW))
      have K0 := hid (KW.out _ (Below.refl _ wr).drew)
      have B0 := hid hb
      have H7 := hid h7
      clear hb h7
      go_wp2_with fail
      go_region_held3 (fun w' => w'.cell? ⟨pb, 4, none⟩ = some (.int .i64 first) /\ w'.cell? ⟨pb, 5, none⟩ = some (.int .i64 seq) /\ w'.cell? ⟨pb, 6, none⟩ = some (.slice sa sn sc) /\ w'.cell? ⟨pb, 7, none⟩ = some (.int .i64 (tk : Int))) (first | with_reducible exact K0.out) (fail)
      have K1 := hid (KW.out _ (Below.refl _ wr).drew.drew)
      go_wp2_with fail
      go_region_held3 (fun w' => w'.cell? ⟨pb, 4, none⟩ = some (.int .i64 first) /\ w'.cell? ⟨pb, 5, none⟩ = some (.int .i64 seq) /\ w'.cell? ⟨pb, 6, none⟩ = some (.slice sa sn sc) /\ w'.cell? ⟨pb, 7, none⟩ = some (.int .i64 (tk : Int))) (first | with_reducible exact K1.out) (fail)
      have K2 := hid (KW.out _ (Below.refl _ wr).drew.drew.drew)
      have BD := hid (B0.out.drew.drew.drew)
      have FE1 := hid (FE.out wr.drew.drew.drew (HT.out.below BD.out HT.out.lt) (RM.out.below BD.out (Nat.le_refl _)))
      go_wp2_with fail
      go_region_held3 (fun w' => w'.cell? ⟨pb, 4, none⟩ = some (.int .i64 first) /\ w'.cell? ⟨pb, 5, none⟩ = some (.int .i64 seq) /\ w'.cell? ⟨pb, 6, none⟩ = some (.slice sa sn sc) /\ w'.cell? ⟨pb, 7, none⟩ = some (.int .i64 (tk : Int))) (first | with_reducible exact K2.out | with_reducible exact hS)
        (first
          | ((go_at_call 229); (with_reducible refine FE1.out.mono ?_); (rintro e w5 ⟨v5, rfl, ho5, hb5⟩); (have hB5 := bidd (w := wr) (bidd (w := wr.drew) (bidd (w := wr.drew.drew) hb5))); (have hS := KW.out _ hB5)))
      have BW5 := hid (tB B0.out hB5)
      have hp5 := (show Pk w pb l first seq st tk (.slice sa sn sc) from HP.out).below BW5.out
      have P5 := hid hp5
      obtain ⟨af, cf, rfl, _⟩ := ho5.rd
      rw [HL.out] at ho5 ⊢
      have O5 := hid (ho5.mono (show w.heap.size <= _ from B0.out.size))
      have hs5 := BW5.out.size
      clear hp5 ho5 hb5 hB5 hS KW
      go_wp2_with (at_builtin; refine Stop.out ?_)
      refine Stop.of (wpList_append_lies _ rfl _ _ 266 rfl w.heap.size 3 j0 (.int .i64 0) 1 8 Tryz.underlying266 J1.out J2.out J3.out J4.out rfl (by decide) (.slice none 0 0) 0 [] rfl (World.ownsRow_nil _ _ _ _)
        ⟨w5.heap.size, 0, none⟩ 1 1 [.int .i64 (first + 1 + (tk : Int))] rfl rfl (World.news_of_block (cs := #[.int .i64 (first + 1 + (tk : Int))]) (nB w5 _)) (ints_one .i64 [_]) (by decide) (by decide) (by decide) (by simp; omega) _ rfl ?_)
      intro g2 c2 w6 hown2 hgrow2 hat2 hlt2
      have hb6 := bel_app (w := w5) (Below.refl _ _) (World.ownsRow_nil w5 w5.heap.size 3 1) hgrow2
      have q2 := hown2.cellAt 0 (by decide)
      have hg2 : w5.heap.size <= g2 := by
        rcases hat2 with h1 | h1
        · cases h1
        · simp at h1; omega
      have HB6 := hid hb6
      have hs6 := hb6.size
      clear hb6 hown2 hgrow2 hat2
      go_wp2_with (at_builtin; refine Stop.out ?_)
      refine Stop.of (wpList_append_lies _ rfl _ _ 44 rfl w.heap.size 33 i0 (.slice none 0 0) 1 24 Tryz.underlying44 I1.out I2.out I3.out I4.out rfl (by decide) (.slice none 0 0) 0 [] rfl (World.ownsRow_nil _ _ _ _)
        ⟨w6.heap.size, 0, none⟩ 1 1 [.slice af 64 cf] rfl rfl (World.news_of_block (cs := #[.slice af 64 cf]) (nB w6 _)) (fun u hu => by simp only [List.mem_singleton] at hu; subst hu; rfl) (by decide) (by decide) (by decide) (by simp; omega) _ rfl ?_)
      intro g3 c3 w7 hown3 hgrow3 hat3 hlt3
      have hb7 := bel_app (w := w6) (Below.refl _ _) (World.ownsRow_nil w6 w6.heap.size 33 1) hgrow3
      have q3 := hown3.cellAt 0 (by decide)
      have hg3 : w6.heap.size <= g3 := by
        rcases hat3 with h1 | h1
        · cases h1
        · simp at h1; omega
      have q2' := (hb7.cell (p := ⟨g2, 0, none⟩) hlt2).trans q2
      have hp7 := (P5.out.below HB6.out).below hb7
      have B7 := hid (tB (tB BW5.out HB6.out) hb7)
      have O7 := hid ((O5.out.below HB6.out).below hb7)
      have x7 : w7.cell? ⟨pb, 7, none⟩ = some (.int .i64 (tk : Int)) := qB hp7.blk
      have y7 : w7.frozen? ⟨pb, 7, none⟩ = false := zB hp7.blk
      have P7 := hid hp7
      have hs7 := hb7.size
      have Q2 := hid q2'
      have Q3 := hid q3
      have H3 := hid hlt3
      have H2 := hid (Nat.lt_of_lt_of_le hlt2 hb7.size)
      clear hb7 hown3 hgrow3 hat3 hp7 q2 q2' q3 hlt2 hlt3
      go_wp2_with fail
      go_roundw
      case rel =>
        have hne2 : g2 ≠ pb := by omega
        have hne3 : g3 ≠ pb := by omega
        refine .inr ⟨g2, c2, g3, c3, af, cf, rfl, rfl, ?_, ?_, ⟨by omega, by omega, ?_, ?_⟩, O7.out.setOther hlt _ _, P7.out.took (by rw [HSN.out]; exact HH0.out) _ (by omega), (Fr.of_below (S := fun j => j = pb) B7.out).trans (fS w7 pb 7 _) (fun j hj => .inl hj)⟩
        · rw [World.cell?_setCell_other _ _ _ _ (by simp)]; exact Q2.out
        · rw [World.cell?_setCell_other _ _ _ _ (by simp)]; exact Q3.out
        · simp [World.setCell]; exact H2.out
        · simp [World.setCell]; exact H3.out
      case measure =>
        have e1 : (w7.setCell ⟨pb, 7, none⟩ (.int .i64 ((tk : Int) + 1))).cell? ⟨pb, 7, none⟩ = some (.int .i64 ((tk : Int) + 1)) := qB (uB P7.out.blk _)
        rw [e1, H7.out]
        simp [intOf]
    · have hb := hp.blk
      have KW := hid (show ∀ W, Below wr.heap.size wr W -> W.cell? ⟨pb, 6, none⟩ = some (.slice sa sn sc) /\ W.cell? ⟨pb, 7, none⟩ = some (.int .i64 ((tk : Int) + 1)) from fun W hW =>
        have e := (hW.block pb (lB hb)).trans hb
        ⟨qB e, by rw [qB e]; rfl⟩)
      have K0 := hid (KW.out _ (Below.refl _ wr).drew)
      have E2 := hid e2; have E3 := hid e3; have HG := hid hg
      have O2 := hid (ho.below (Below.refl _ wr).drew)
      have P2 := hid (hp.below (Below.refl _ wr).drew)
      have F2 := hid hf.drew
      clear hb e2 e3 hg ho hp hf
      go_wp2_with fail
      go_region_held3 (fun w' => w'.cell? ⟨pb, 6, none⟩ = some (.slice sa sn sc) /\ w'.cell? ⟨pb, 7, none⟩ = some (.int .i64 ((tk : Int) + 1))) (first | with_reducible exact K0.out) (fail)
      go_wp2_with fail
      go_ret2
      exact ⟨g2, c2, g3, c3, af, cf, rfl, E2.out, E3.out, HG.out, O2.out, P2.out, F2.out⟩
end Go.Proofs.YtbikkioipamlmaaGreatDoor
namespace Go.Proofs.YtbikkioipamlmaaGreatDoor
open Go.Maps Go.RowKit
structure Rgn (w : World) (rb dp pb : Nat) (h : Hd) (l : Lay) (st : List Int) (tk : Nat) (sv : Value) : Prop where
  blk : w.heap[rb]? = some (.cells #[.pointer (some ⟨dp, 0, none⟩), .int .i64 h.ver, .int .i64 h.slot, .int .i64 h.lay, .int .i64 h.seq, .int .i64 h.tail, .int .i64 h.now, .pointer (some ⟨pb, 0, none⟩)] 320 (0, 0))
  pk : Pk w pb l (firstD l h.slot) h.seq st tk sv
  ne : ¬ pkF pb sv rb
def regF (rb pb : Nat) (sv : Value) : Nat -> Prop := fun j => j = rb \/ pkF pb sv j
theorem Rgn.lt {w : World} {rb dp pb : Nat} {h : Hd} {l : Lay} {st : List Int} {tk : Nat} {sv : Value} (r : Rgn w rb dp pb h l st tk sv) : ∀ j, regF rb pb sv j -> j < w.heap.size := by
  rintro j (rfl | hj)
  · exact lB r.blk
  · exact r.pk.lt j hj
theorem Rgn.fr {w w' : World} {rb dp pb : Nat} {h : Hd} {l : Lay} {st : List Int} {tk : Nat} {sv : Value} {T : Nat -> Prop} (r : Rgn w rb dp pb h l st tk sv) (hf : Fr T w w') (hd : ∀ j, regF rb pb sv j -> ¬ T j) : Rgn w' rb dp pb h l st tk sv :=
  ⟨by rw [hf.block _ (lB r.blk) (hd _ (.inl rfl))]; exact r.blk, r.pk.fr hf (fun j hj => hd j (.inr hj)), r.ne⟩
theorem Rgn.below {w w' : World} {rb dp pb : Nat} {h : Hd} {l : Lay} {st : List Int} {tk : Nat} {sv : Value} (r : Rgn w rb dp pb h l st tk sv) (hb : Below w.heap.size w w') : Rgn w' rb dp pb h l st tk sv := r.fr (Fr.of_below (S := fun _ => False) hb) (fun _ _ f => f)
theorem ropen8 (T : Nat -> Int) (dp ib mb cap n : Nat) (D : DataW Nat) (S : List (List Int)) (wr fi : Nat) (l : Lay) (h : Hd) (w : World) (hd : Dev w dp ib mb cap n D S wr) (hT : CrcT T w) (hf : formB l = true) (hh : hdB h = true) (hv : h.ver = l.ver) (hl : h.lay = l.id)
    (hs : h.slot < l.rg) (hfi : firstD l h.slot = (fi : Int)) (hS : fi < S.length) (hwr : wr + 1 <= 1000000) (h0 : ∀ j, devF dp ib mb j -> 0 < j) :
    Calls prog 217 #[.pointer (some ⟨dp, 0, none⟩), layV l, .agg ⟨h.vals⟩] w fun e w' => ∃ rb pb n', e = .returned (.tuple #[.pointer (some ⟨rb, 0, none⟩), .int .i64 0]) /\ (w.heap.size <= rb /\ w.heap.size <= pb) /\
      Dev w' dp ib mb cap n' (.map []) (S.set fi (hdE (crcF T) (fi : Int) h)) (wr + 1) /\ Rgn w' rb dp pb h l [] 0 (.slice none 0 0) /\ Fr (devF dp ib mb) w w' := by
  obtain ⟨v0, s0, s1, l0, l1, q0, q1, t0, t1, n0, n1⟩ := of_decide_eq_true hh
  have F1 := hid (fun W => form20 l.id l.ver l.rs l.rg W)
  have F2 := hid (fun W => hvalid8 h W)
  have F3 := hid (fun W => pnew8 l h.slot h.seq W hf s0 hs q0 q1)
  have F4 := hid (fun W => first13 l.id l.ver l.rs l.rg h.slot W)
  have hfr := firstD_rng l h.slot
  have hl64 : (hdE (crcF T) (fi : Int) h).length = 64 := frameE_length (crcF T) 1 0 (fi : Int) (hdY h) (by rw [hdY_length]; omega)
  rw [hfi] at hfr
  have F5 := hid (fun (W : World) (hW : CrcT T W) => henc8 T h (fi : Int) W hh hW (by omega) (by omega))
  have HD := hid hd
  have HT := hid hT
  have HL := hid hl64
  obtain ⟨E, hE⟩ : ∃ E, hdE (crcF T) (fi : Int) h = E := ⟨_, rfl⟩
  have HFI := hid hfi
  rw [hE] at F5 HL ⊢
  obtain ⟨ver, slot, lay, seq, tail, now⟩ := h
  obtain ⟨id, ver', rs, rg⟩ := l
  simp only [Hd.vals] at *
  subst hv hl
  rw [hf] at F1
  rw [hh] at F2
  rw [hfi] at F3 F4
  obtain ⟨w0, hw0⟩ : ∃ w0, (w.alloc (.cells #[.int .i64 lay, .int .i64 ver, .int .i64 rs, .int .i64 rg] 26)).alloc (.cells #[.int .i64 ver, .int .i64 slot, .int .i64 lay, .int .i64 seq, .int .i64 tail, .int .i64 now] 66) = w0 := ⟨_, rfl⟩
  have hs0 : w0.heap.size = w.heap.size + 1 + 1 := by rw [<- hw0]; simp
  have B0 := hid (show Below w.heap.size w w0 by rw [<- hw0]; exact ((Below.refl _ _).alloc (Nat.le_refl _) _).alloc (by simp) _)
  have HL0 := hid (show w0.heap[w.heap.size]? = some (.cells #[.int .i64 lay, .int .i64 ver, .int .i64 rs, .int .i64 rg] 26 (0, 0)) by rw [<- hw0]; exact old_at (nB w _) _)
  have HH0 := hid (show w0.heap[w.heap.size + 1]? = some (.cells #[.int .i64 ver, .int .i64 slot, .int .i64 lay, .int .i64 seq, .int .i64 tail, .int .i64 now] 66 (0, 0)) by rw [<- hw0, has1 w (.cells #[.int .i64 lay, .int .i64 ver, .int .i64 rs, .int .i64 rg] 26)]; exact nB _ _)
  have KL := hid (show ∀ W, Below w0.heap.size w0 W -> W.cell? ⟨w.heap.size, 0, none⟩ = some (.int .i64 lay) /\ W.cell? ⟨w.heap.size, 1, none⟩ = some (.int .i64 ver) /\ W.cell? ⟨w.heap.size, 2, none⟩ = some (.int .i64 rs) /\ W.cell? ⟨w.heap.size, 3, none⟩ = some (.int .i64 rg) from fun W hW =>
    have e := (hW.block _ (by omega)).trans HL0.out
    ⟨qB e, qB e, qB e, qB e⟩)
  have KH := hid (show ∀ W : World, W.heap[w.heap.size + 1]? = w0.heap[w.heap.size + 1]? -> W.cell? ⟨w.heap.size + 1, 0, none⟩ = some (.int .i64 ver) /\ W.cell? ⟨w.heap.size + 1, 1, none⟩ = some (.int .i64 slot) /\ W.cell? ⟨w.heap.size + 1, 2, none⟩ = some (.int .i64 lay) /\ W.cell? ⟨w.heap.size + 1, 3, none⟩ = some (.int .i64 seq) /\ W.cell? ⟨w.heap.size + 1, 4, none⟩ = some (.int .i64 tail) /\ W.cell? ⟨w.heap.size + 1, 5, none⟩ = some (.int .i64 now) from fun W hW =>
    have e := hW.trans HH0.out
    ⟨qB e, qB e, qB e, qB e, qB e, qB e⟩)
  obtain ⟨kl0, kl1, kl2, kl3⟩ := KL.out w0 (Below.refl _ _)
  obtain ⟨kh0, kh1, kh2, kh3, kh4, kh5⟩ := KH.out w0 rfl
  clear hd hT hf hh hfi hfr hl64 hE
  go_enter Tryz.func217, Tryz.ntmps217
  go_wp2_with fail
  (try rw [hw0])
  clear hw0
  with_reducible refine (F1.out _).mono ?_
  rintro e w1 ⟨rfl, hb1⟩
  obtain ⟨kl0, kl1, kl2, kl3⟩ := KL.out w1 hb1
  obtain ⟨kh0, kh1, kh2, kh3, kh4, kh5⟩ := KH.out w1 (hb1.block _ (by omega))
  have B1 := hid hb1
  clear hb1
  go_wp2_with fail
  with_reducible refine (F2.out _).mono ?_
  rintro e w2 ⟨rfl, hb2⟩
  have B2 := hid (tB B1.out hb2)
  obtain ⟨kl0, kl1, kl2, kl3⟩ := KL.out w2 B2.out
  obtain ⟨kh0, kh1, kh2, kh3, kh4, kh5⟩ := KH.out w2 (B2.out.block _ (by omega))
  clear hb2
  go_wp2_with fail
  with_reducible refine (F3.out _).mono ?_
  rintro e w3 ⟨pb, rfl, hpb, hpk, hb3⟩
  have B3 := hid (tB B2.out hb3)
  obtain ⟨kl0, kl1, kl2, kl3⟩ := KL.out w3 B3.out
  obtain ⟨kh0, kh1, kh2, kh3, kh4, kh5⟩ := KH.out w3 (B3.out.block _ (by omega))
  have P3 := hid hpk
  have hs2 := B2.out.size
  clear hb3 hpk
  go_wp2_with fail
  with_reducible refine (F4.out _).mono ?_
  rintro e w4 ⟨rfl, hb4⟩
  have B4 := hid (tB B3.out hb4)
  obtain ⟨kl0, kl1, kl2, kl3⟩ := KL.out w4 B4.out
  obtain ⟨kh0, kh1, kh2, kh3, kh4, kh5⟩ := KH.out w4 (B4.out.block _ (by omega))
  have P4 := hid (P3.out.below hb4)
  have F5' := hid (F5.out w4 (HT.out.below (tB B0.out B4.out) HT.out.lt))
  clear hb4
  go_wp2_with fail
  with_reducible refine F5'.out.mono ?_
  rintro e w5 ⟨a5, c5, rfl, ho5, hb5⟩
  have B5 := hid (tB B4.out hb5)
  obtain ⟨kh0, kh1, kh2, kh3, kh4, kh5⟩ := KH.out w5 (B5.out.block _ (by omega))
  have P5 := hid (P4.out.below hb5)
  obtain ⟨_, _, he, hr5⟩ := ho5.rd
  rw [HL.out] at he hr5
  cases he
  have BW5 := hid (tB B0.out B5.out)
  have hdl := HD.out.lt
  have hs4 := B4.out.size
  have W1 := hid (writeD dp ib mb cap n D S wr fi a5 64 c5 E w5 (HD.out.below BW5.out) hS hr5 (by omega) hwr (fun ad e hj => by
    have h6 := hdl ad.block hj
    have h7 := (ho5.own.lt ad.block (by rw [e]; rfl)).1
    omega))
  have D5 := hid hdl
  have hs5 := B5.out.size
  clear hb5 ho5 hr5 hdl
  go_wp2_with fail
  with_reducible refine W1.out.mono ?_
  rintro e w6 ⟨rfl, n6, D6, hd6, hf6⟩
  obtain ⟨kh0, kh1, kh2, kh3, kh4, kh5⟩ := KH.out w6 ((hf6.block _ (by omega) (fun hj => by have := D5.out _ hj; omega)).trans (B5.out.block _ (by omega)))
  have BA := hid (barrierD dp ib mb cap n6 D6 _ (wr + 1) w6 hd6)
  have FF6 := hid ((Fr.of_below (S := devF dp ib mb) BW5.out).trans hf6 (fun j hj => .inl hj))
  have P6 := hid (P5.out.fr hf6 (fun j hj hd => by have := D5.out _ hd; have := P5.out.ge j hj; omega))
  have hs6 := hf6.size
  have K6 := hid ((hf6.block (w.heap.size + 1) (by omega) (fun hj => by have := D5.out _ hj; omega)).trans (B5.out.block _ (by omega)))
  clear hd6 hf6
  go_wp2_with fail
  with_reducible refine BA.out.mono ?_
  rintro e w7 ⟨rfl, hd7, hf7⟩
  obtain ⟨kh0, kh1, kh2, kh3, kh4, kh5⟩ := KH.out w7 ((hf7.block _ (by omega) (fun hj => by have := D5.out _ hj; omega)).trans K6.out)
  have HD7 := hid hd7
  have FF7 := hid (FF6.out.trans hf7 (fun j hj => .inl hj))
  have P7 := hid (P6.out.fr hf7 (fun j hj hd => by have := D5.out _ hd; have := P6.out.ge j hj; omega))
  have hs7 := hf7.size
  clear hd7 hf7
  go_wp2_with fail
  go_ret2
  have hr := ((Below.refl w7.heap.size w7).alloc (Nat.le_refl _) (.cells #[.pointer (some ⟨dp, 0, none⟩), .int .i64 ver, .int .i64 slot, .int .i64 lay, .int .i64 seq, .int .i64 tail, .int .i64 now, .pointer (some ⟨pb, 0, none⟩)] 320))
  have hd8 := HD7.out.below hr
  rw [pad64_self HL.out] at hd8
  refine ⟨w7.heap.size, pb, n6, rfl, ⟨by omega, by omega⟩, hd8, ⟨nB w7 _, ?_, fun hj => ?_⟩, FF7.out.alloc _⟩
  · rw [HFI.out]; exact P7.out.below hr
  · have := P7.out.lt _ hj; omega
theorem rheader8 (rb dp pb : Nat) (h : Hd) (l : Lay) (st : List Int) (tk : Nat) (sv : Value) (w : World) (r : Rgn w rb dp pb h l st tk sv) :
    Calls prog 143 #[.pointer (some ⟨rb, 0, none⟩)] w fun e w' => e = .returned (.agg ⟨h.vals⟩) /\ Below w.heap.size w w' := by
  have hlt := lB r.blk
  obtain ⟨w0, hw0⟩ : ∃ w0, w.alloc (.cells #[.int .i64 0, .int .i64 0, .int .i64 0, .int .i64 0, .int .i64 0, .int .i64 0] 66) = w0 := ⟨_, rfl⟩
  have B0 := hid (show Below w.heap.size w w0 by rw [<- hw0]; exact (Below.refl _ _).alloc (Nat.le_refl _) _)
  have hk := (show w0.heap[w.heap.size]? = some (.cells #[.int .i64 0, .int .i64 0, .int .i64 0, .int .i64 0, .int .i64 0, .int .i64 0] 66 (0, 0)) by rw [<- hw0]; exact nB w _)
  have HK := hid hk
  have hb := (B0.out.block rb hlt).trans r.blk
  have r1 : w0.cell? ⟨rb, 1, none⟩ = some (.int .i64 h.ver) := qB hb
  have r2 : w0.cell? ⟨rb, 2, none⟩ = some (.int .i64 h.slot) := qB hb
  have r3 : w0.cell? ⟨rb, 3, none⟩ = some (.int .i64 h.lay) := qB hb
  have r4 : w0.cell? ⟨rb, 4, none⟩ = some (.int .i64 h.seq) := qB hb
  have r5 : w0.cell? ⟨rb, 5, none⟩ = some (.int .i64 h.tail) := qB hb
  have r6 : w0.cell? ⟨rb, 6, none⟩ = some (.int .i64 h.now) := qB hb
  have c0 : w0.cell? ⟨w.heap.size, 0, none⟩ = some (.int .i64 0) := qB hk
  have c1 : w0.cell? ⟨w.heap.size, 1, none⟩ = some (.int .i64 0) := qB hk
  have c2 : w0.cell? ⟨w.heap.size, 2, none⟩ = some (.int .i64 0) := qB hk
  have c3 : w0.cell? ⟨w.heap.size, 3, none⟩ = some (.int .i64 0) := qB hk
  have c4 : w0.cell? ⟨w.heap.size, 4, none⟩ = some (.int .i64 0) := qB hk
  have c5 : w0.cell? ⟨w.heap.size, 5, none⟩ = some (.int .i64 0) := qB hk
  have f0 : w0.frozen? ⟨w.heap.size, 0, none⟩ = false := zB hk
  have f1 : w0.frozen? ⟨w.heap.size, 1, none⟩ = false := zB hk
  have f2 : w0.frozen? ⟨w.heap.size, 2, none⟩ = false := zB hk
  have f3 : w0.frozen? ⟨w.heap.size, 3, none⟩ = false := zB hk
  have f4 : w0.frozen? ⟨w.heap.size, 4, none⟩ = false := zB hk
  have f5 : w0.frozen? ⟨w.heap.size, 5, none⟩ = false := zB hk
  clear r hk hb
  obtain ⟨ver, slot, lay, seq, tail, now⟩ := h
  simp only [Hd.vals] at *
  go_enter Tryz.func143, Tryz.ntmps143
  go_wp2_with fail
  (try simp only [Exit.inBlock, Exit.then])
  refine bodyPost_ret (results_cell_row rfl _ _ w.heap.size _ _ _ _ rfl (set6 HK.out _ _ _ _ _ _) Tryz.underlying66 rfl (by kernel_rfl)) rfl ?_
  exact ⟨rfl, sB (sB (sB (sB (sB (sB B0.out (Nat.le_refl _)) (Nat.le_refl _)) (Nat.le_refl _)) (Nat.le_refl _)) (Nat.le_refl _)) (Nat.le_refl _)⟩
theorem rread8 (rb dp pb : Nat) (h : Hd) (l : Lay) (st : List Int) (tk : Nat) (sv : Value) (off n : Nat) (zo zn : Int) (w : World) (r : Rgn w rb dp pb h l st tk sv) (ho : off + n <= st.length) (hzo : zo = (off : Int)) (hzn : zn = (n : Int)) :
    Calls prog 288 #[.pointer (some ⟨rb, 0, none⟩), .int .i64 zo, .int .i64 zn] w fun e w' => ∃ a' c', e = .returned (.slice a' n c') /\ Own8 w.heap.size w' (.slice a' n c') ((st.drop off).take n) /\ Below w.heap.size w w' := by
  have r7 : w.cell? ⟨rb, 7, none⟩ = some (.pointer (some ⟨pb, 0, none⟩)) := qB r.blk
  have RM := hid (pbytes8 pb l _ _ st tk sv off n zo zn w r.pk ho hzo hzn)
  clear r hzo hzn
  go_enter Tryz.func288, Tryz.ntmps288
  go_wp2_with fail
  with_reducible refine RM.out.mono ?_
  rintro e w1 ⟨a', c', rfl, ho1, hb1⟩
  go_wp2_with fail
  go_ret
  exact ⟨a', c', rfl, ho1, hb1⟩
end Go.Proofs.YtbikkioipamlmaaGreatDoor
