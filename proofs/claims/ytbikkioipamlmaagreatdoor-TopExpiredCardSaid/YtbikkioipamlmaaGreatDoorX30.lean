/-
  Laws and contracts for the statement TopExpired.
-/
import Derived.Test.YtbikkioipamlmaaGreatDoorX29
open Go.Lib (hid)
open Go.Proofs.Tryz (prog)
set_option linter.unusedVariables false
set_option linter.unusedSimpArgs false
set_option maxRecDepth 100000
set_option maxHeartbeats 20000000
namespace Go.Proofs.YtbikkioipamlmaaGreatDoor
open Go.Maps Go.RowKit L21 T16
section
variable {w : World} {T : Nat -> Int} {sb tb cb qb dp ib mb cap n wn N rb pb tk : Nat} {D : DataW Nat} {S : List (List Int)} {l : Lay} {now : Int} {P Q R : Nat -> Prop} {lv sv : Value} {st : List Int} {col : Nat -> Nat}
theorem swrite1 (h : Ss1 w T sb tb cb qb dp ib mb cap n D S wn l now none N P Q R lv rb pb st tk sv col) (r : Rec) (ka va : Option Addr) (kn kc vn vc : Nat) (hk : Rd8 w ka kn kc r.key) (hv : Rd8 w va vn vc r.val) (hka : ∀ ad, ka = some ad -> col ad.block = 0)
    (hc : recChk l.ver r = 0) (hkd : r.kind = 1) (hex : now < r.exp) (n0 : 0 <= now) (hfit : ((st.length + (16 + kn + vn) : Nat) : Int) <= capD l) (h0 : st.length + (16 + kn + vn) < (tk + 1) * 59) (hN : N <= 1000) :
    Calls prog 147 #[.pointer (some ⟨sb, 0, none⟩), recV r.kind r.exp ka kn kc va vn vc] w fun e w' => e = .returned (.int .i64 0) /\ ∃ P' Q' R' sv' col', Ss1 w' T sb tb cb qb dp ib mb cap n D S wn l now (some (strOfNums r.key, ⟨1, (st.length : Int), ((16 + kn + vn : Nat) : Int), r.exp, false⟩)) (N + 1) P' Q' R' lv rb pb (st ++ recE T l.ver 1 (st.length : Int) r) tk sv' col' /\ CStep w w' col col' := by
  obtain ⟨hver, k1, k3, k255, v65, e0, e1, hn1, hk3, hkn⟩ := recChk_ok hc
  have e2 := latestD_le l.ver
  have hkl := hk.len
  have hks : (strOfNums r.key).size <= 255 := by rw [nums_size]; exact k255
  have hcap := capD_rng h.rg.pk.form
  have hl := lB h.sto
  have ww1 : (Lit.int .i64 (st.length : Int)).wf = true := wf64 (by omega) (by omega)
  have ww2 : (Lit.int .i64 r.exp).wf = true := wf64 (by omega) (by omega)
  have WW1 := hid ww1
  have WW2 := hid ww2
  obtain ⟨w0, hw0⟩ : ∃ w0, w.alloc (.cells #[.int .i64 r.kind, .slice ka kn kc, .slice va vn vc, .int .i64 r.exp] 161) = w0 := ⟨_, rfl⟩
  have B0 := hid (show Below w.heap.size w w0 by rw [<- hw0]; exact bel_al1 _)
  have HX0 := hid (show w0.heap[w.heap.size]? = some (.cells #[.int .i64 r.kind, .slice ka kn kc, .slice va vn vc, .int .i64 r.exp] 161 (0, 0)) by rw [<- hw0]; exact nB _ _)
  have H0 := hid (h.below B0.out)
  have HB := hid (h.k0 _ (Nat.le_refl _))
  have KA := hid hka
  have HK0 := hid (hk.below B0.out (Nat.le_refl _))
  have HS := hid hks
  have HKD := hid hkd
  have HN := hid hN
  have K5 := hid h.k5
  have KX := hid (show ∀ W, Fr (fun j => col j ≠ 0 /\ j ≠ sb) w0 W -> W.cell? ⟨sb, 22, none⟩ = some (.pointer (some ⟨rb, 0, none⟩)) /\ W.cell? ⟨sb, 24, none⟩ = some (.int .i64 now) /\ W.cell? ⟨w.heap.size, 0, none⟩ = some (.int .i64 r.kind) /\ W.cell? ⟨w.heap.size, 1, none⟩ = some (.slice ka kn kc) /\ W.cell? ⟨w.heap.size, 2, none⟩ = some (.slice va vn vc) /\ W.cell? ⟨w.heap.size, 3, none⟩ = some (.int .i64 r.exp) from fun W hW =>
    have e := (hW.block w.heap.size (lB HX0.out) (fun q => q.1 HB.out)).trans HX0.out
    have e' := (hW.block sb (lB H0.out.sto) (fun q => q.2 rfl)).trans H0.out.sto
    ⟨qB e', qB e', qB e, qB e, qB e, qB e⟩)
  have RA := hid (rappend0 T rb dp pb (hd1 l) l st tk sv r ka va kn kc vn vc w0.drew (H0.out.rg.below (Below.refl _ _).drew) (H0.out.ct.below (Below.refl _ _).drew H0.out.ct.lt) (HK0.out.below (Below.refl _ _).drew (Nat.le_refl _)) ((hv.below B0.out (Nat.le_refl _)).below (Below.refl _ _).drew (Nat.le_refl _)) hc hfit h0)
  have hs1 : (hd1 l).seq = 1 := rfl
  rw [hs1] at RA
  have K0 := hid (KX.out w0.drew ((Fr.refl _ _).drew))
  obtain ⟨key, hkey⟩ : ∃ q, strOfNums r.key = q := ⟨_, rfl⟩
  rw [hkey] at HS ⊢
  have HKEY := hid hkey
  clear hkey
  obtain ⟨RS, hRS⟩ : ∃ q, st ++ recE T l.ver 1 (st.length : Int) r = q := ⟨_, rfl⟩
  rw [hRS] at RA ⊢
  obtain ⟨sl, hsl⟩ : ∃ q, st.length = q := ⟨_, rfl⟩
  rw [hsl] at RA WW1 ⊢
  obtain ⟨rl, hrl⟩ : ∃ q, 16 + kn + vn = q := ⟨_, rfl⟩
  rw [hrl] at RA ⊢
  unfold recV at RA ⊢
  rw [hkd] at RA KX K0 ⊢
  rw [hkd] at hw0
  have hb1 : (r.exp == 0) = false := beq_eq_false_iff_ne.2 (by omega)
  have hb2 : decide (now < r.exp) = true := by simp; omega
  clear hver k1 k3 k255 v65 e0 e1 hn1 hk3 hkn e2 hkl hks hcap ww1 ww2 h hk hv hka hc hfit h0 hN hs1 hRS hsl hrl hkd n0
  go_enter Tryz.func147, Tryz.ntmps147
  go_upto_region 1 with fail
  (try rw [hw0])
  clear hw0
  go_region_held3 (fun w' => w'.cell? ⟨sb, 22, none⟩ = some (.pointer (some ⟨rb, 0, none⟩)) /\ w'.cell? ⟨sb, 24, none⟩ = some (.int .i64 now) /\ w'.cell? ⟨w.heap.size, 0, none⟩ = some (.int .i64 1) /\ w'.cell? ⟨w.heap.size, 1, none⟩ = some (.slice ka kn kc) /\ w'.cell? ⟨w.heap.size, 2, none⟩ = some (.slice va vn vc) /\ w'.cell? ⟨w.heap.size, 3, none⟩ = some (.int .i64 r.exp)) (first | with_reducible exact hS1 | with_reducible exact K0.out)
    (first
      | ((go_at_call 218); (with_reducible refine RA.out.mono ?_); (rintro e x1 ⟨sv1, rfl, hr1, hf1, hn1⟩); (have hS1 := KX.out _ ((fr_undrew hf1).mono (fun j _ hj => ⟨fun e => by have := H0.out.k3 j (.inr hj); omega, fun e => by have h1 := H0.out.k3 j (.inr hj); have h2 := K5.out; rw [e] at h1; omega⟩)))))
  obtain ⟨h1, c1⟩ := H0.out.stepR (fr_undrew hf1) hr1 hn1
  have H1 := hid h1
  have C1 := hid c1
  have HX1 := hid ((c1.block (lB HX0.out) HB.out).trans HX0.out)
  have HK1 := hid (HK0.out.fr c1.fr (fun ad e q => q (KA.out ad e)))
  have KA1 := hid (show ∀ ad, ka = some ad -> ad.block < w0.heap.size \/ kn = 0 from fun ad e => by
    rcases Nat.eq_zero_or_pos kn with q | q
    · exact .inr q
    · obtain ⟨g, off, e', hg, _⟩ := HK0.out.el 0 q
      rw [e] at e'
      cases e'
      exact .inl hg)
  clear h1 c1 hr1 hf1 hn1 hS1 RA K0 KX
  have CV := conv_bytes HK1.out
  have b0 := qB (i := 0) HX1.out
  have b1 := qB (i := 1) HX1.out
  rw [HKD.out] at b0
  have IR := hid (iremove0 sb tb N key x1 P (qB (i := 0) H1.out.sto) H1.out.ix.t (by have := HS.out; omega))
  rw [HKEY.out] at CV
  have hl1 := lB H1.out.sto
  have hlx1 := lB HX1.out
  go_wp2_with fail
  with_reducible refine (did8 sb _).mono ?_
  rintro e x9 ⟨rfl, rfl⟩
  go_wp2_with fail
  with_reducible refine IR.out.mono ?_
  rintro e x2 ⟨rfl, ht2⟩
  obtain ⟨P2, h2, c2, n2⟩ := H1.out.stepT ht2 ⟨rfl, rfl⟩ (Nat.le_refl _)
  have H2 := hid h2
  have C2 := hid (C1.out.trans c2)
  have HX2 := hid ((C2.out.block (lB HX0.out) HB.out).trans HX0.out)
  have HS2 := hid (show ¬ ixF P2 Q R sb from fun q => by have a := H2.out.k1 _ q; have b := H2.out.k5; omega)
  have HX2n := hid (show ¬ ixF P2 Q R w.heap.size from fun q => by
    have a := H2.out.k1 _ q
    have b := C2.out.old w.heap.size (lB HX0.out)
    have d := HB.out
    omega)
  clear h2 c2 n2 ht2 IR CV b0 b1
  have KX2 := hid (show ∀ W, Fr (ixF P2 Q R) x2 W -> W.cell? ⟨sb, 22, none⟩ = some (.pointer (some ⟨rb, 0, none⟩)) /\ W.cell? ⟨sb, 24, none⟩ = some (.int .i64 now) /\ W.cell? ⟨w.heap.size, 3, none⟩ = some (.int .i64 r.exp) from fun W hW =>
    have e := (hW.block w.heap.size (lB HX2.out) HX2n.out).trans HX2.out
    have e' := (hW.block sb (lB H2.out.sto) HS2.out).trans H2.out.sto
    ⟨qB e', qB e', qB e⟩)
  have hl2 := lB H2.out.sto
  have hlx2 := lB HX2.out
  have K2 := hid (KX2.out x2.drew (Fr.refl _ _).drew)
  have K3 := hid (KX2.out x2.drew.drew (Fr.refl _ _).drew.drew)
  go_upto_region 8 with fail
  (first | (go_region_held3 (fun w' => w'.cell? ⟨sb, 22, none⟩ = some (.pointer (some ⟨rb, 0, none⟩)) /\ w'.cell? ⟨sb, 24, none⟩ = some (.int .i64 now) /\ w'.cell? ⟨w.heap.size, 3, none⟩ = some (.int .i64 r.exp)) (first | with_reducible exact K2.out) (fail)) | fail)
  have HDR := hid (show Calls prog 143 #[.pointer (some ⟨rb, 0, none⟩)] x2.drew.drew fun e w' => e = .returned (.agg #[.int .i64 l.ver, .int .i64 0, .int .i64 l.id, .int .i64 1, .int .i64 1, .int .i64 0]) /\ Below x2.heap.size x2.drew.drew w' from rheader8 rb dp pb (hd1 l) l RS tk sv1 x2.drew.drew (H2.out.rg.below (Below.refl _ _).drew.drew))
  have AD := hid (show ∀ W, Below x2.heap.size x2 W -> Calls prog 177 #[.pointer (some ⟨sb, 0, none⟩), .agg #[.string key, .int .i64 1, .int .i64 (sl : Int), .int .i64 (rl : Int), .int .i64 r.exp, .bool false]] W fun e w' => e = .returned (.tuple #[]) /\
      ∃ P' Q' R', Ix w' tb cb qb (some (key, ⟨1, (sl : Int), (rl : Int), r.exp, false⟩)) (N + 1) P' Q' R' /\ Fr (ixF P2 Q R) W w' /\ ∀ j, ixF P' Q' R' j -> ixF P2 Q R j \/ W.heap.size <= j from fun W hW =>
    iadd8 sb tb cb qb N key ⟨1, (sl : Int), (rl : Int), r.exp, false⟩ W P2 Q R ((hW.cell (p := ⟨sb, 0, none⟩) hl2).trans (qB (i := 0) H2.out.sto)) ((hW.cell (p := ⟨sb, 1, none⟩) hl2).trans (qB (i := 1) H2.out.sto)) ((hW.cell (p := ⟨sb, 2, none⟩) hl2).trans (qB (i := 2) H2.out.sto)) (H2.out.ix.fr (S := fun _ => False) (Fr.of_below hW) (fun _ _ f => f)) HS2.out (by have := HS.out; unfold maxLen; omega) HN.out (wf64 (i := 1) (by omega) (by omega)) WW1.out WW2.out)
  have HF3 := fun W : World => hd_field3 l.ver 0 l.id 1 1 0 W
  go_upto_region 9 with fail
  go_region_held3 (fun w' => w'.cell? ⟨sb, 22, none⟩ = some (.pointer (some ⟨rb, 0, none⟩)) /\ w'.cell? ⟨sb, 24, none⟩ = some (.int .i64 now) /\ w'.cell? ⟨w.heap.size, 3, none⟩ = some (.int .i64 r.exp)) (first | with_reducible exact hS4 | with_reducible exact hS3 | with_reducible exact K3.out)
    (first
      | ((go_at_call 177); (with_reducible refine (AD.out _ hB3).mono ?_); (rintro e x4 ⟨rfl, P4, Q4, R4, i4, f4, n4⟩); (have hF4 := (Fr.of_below (S := ixF P2 Q R) hB3).trans f4 (fun j hj => .inl hj)); (have hS4 := KX2.out _ hF4))
      | ((go_at_call 143); (with_reducible refine HDR.out.mono ?_); (rintro e x3 ⟨rfl, hb3⟩); (have hB3 := (Below.refl _ x2).drew.drew.trans hb3); (have hS3 := KX2.out _ (Fr.of_below hB3))))
  obtain ⟨h4, c4⟩ := (H2.out.below hB3).stepI f4 i4 n4
  have FIN := hid (And.intro h4 (CStep.pre B0.out ((C2.out.post hB3).trans c4)))
  clear h4 c4 hb3 hB3 hS3 hS4 hF4 f4 i4 n4 HDR AD
  go_wp2_with fail
  go_ret
  exact ⟨rfl, _, _, _, _, _, FIN.out⟩
end
theorem freeL_empty (t : Lay) (f : Nat -> Reg) : ∀ k, ∃ r, freeL t f 0 (k + 2) = 0 :: 1 :: r
  | 0 => ⟨[], by simp [freeL, anyHit]⟩
  | k + 1 => by
    obtain ⟨r, hr⟩ := freeL_empty t f k
    refine ⟨r ++ [((k + 2 : Nat) : Int)], ?_⟩
    rw [show k + 1 + 2 = (k + 2) + 1 from rfl]
    unfold freeL
    rw [hr]
    simp [anyHit]
theorem freeQ_empty {t : Lay} (h : formB t = true) : ∃ r, freeQ t [] = 0 :: 1 :: r := by
  have h1 := formB_rng h
  unfold freeQ freeD
  rw [if_pos h, List.length_nil, show t.rg.toNat = (t.rg.toNat - 2) + 2 from by omega]
  exact freeL_empty _ _ _
theorem chB_empty {t : Lay} (h : formB t = true) : chB t [] = true := by
  obtain ⟨r, hr⟩ := freeQ_empty h
  unfold chB; rw [hr]
theorem chS_empty {t : Lay} (h : formB t = true) : chS t [] = 0 := by
  obtain ⟨r, hr⟩ := freeQ_empty h
  unfold chS; rw [hr]
theorem spB_empty {t : Lay} (h : formB t = true) : spB t [] 0 = true := by
  obtain ⟨r, hr⟩ := freeQ_empty h
  unfold spB; rw [hr]; simp
theorem wpAnyH_takeD {P : Program} {md : Region.Mode} {ops : Array Oper} {Q : Exit -> Act -> World -> Prop} {S : World -> Prop} {i : Nat} {oi : Oper} {v : Value} {fuel : Nat} {listed : Array Bool} {a : Act} {w : World} (d : Option Tmp) (hi : ops[i]? = some oi) (hd : oi.dst = d)
    (hs : Region.noSelect ops = true) (hf : Region.free md ops listed i = true) (hr : (Region.ready md ops listed).contains i = true)
    (hQ : ∀ c a w, Q (.panic c) (a.put d v) w -> Q (.panic c) a w) (hy : YieldsIf P ops S oi v a) (hS : S w)
    (h : wpAnyH P md ops Q S fuel (listed.setIfInBounds i true) (a.put d v) w) : wpAnyH P md ops Q S (fuel + 1) listed a w := by
  subst hd
  exact wpAnyH_take hi hs hf hr hQ hy hS h
section
variable {w : World} {T : Nat -> Int} {sb tb cb qb dp ib mb cap n wn N : Nat} {D : DataW Nat} {S : List (List Int)} {l : Lay} {now : Int} {P Q R : Nat -> Prop} {lv : Value} {col : Nat -> Nat}
theorem sbegin0 (z : Int) (h : Ss0 w T sb tb cb qb dp ib mb cap n D S wn l 0 N P Q R lv col) (hf : formB l = true) (hS : 76 <= S.length) (hwr : wn + 1 <= 1000000) :
    Calls prog 146 #[.pointer (some ⟨sb, 0, none⟩), .int .i64 z] w fun e w' => e = .returned (.int .i64 0) /\ ∃ n' lv' rb pb col', Ss1 w' T sb tb cb qb dp ib mb cap n' (.map []) (S.set 74 (hdE (crcF T) 74 (hd1 l))) (wn + 1) l 0 none N P Q R lv' rb pb [] 0 (.slice none 0 0) col' /\ CStep w w' col col' := by
  obtain ⟨i0, hi, hz0, hz1, hz2⟩ := info_parts regioninfo8
  have I1 := hid hi; have I2 := hid hz0; have I3 := hid hz1; have I4 := hid hz2
  clear hi hz0 hz1 hz2
  have hch := chB_empty hf
  have h9 := h
  obtain ⟨a, c, rfl, h0⟩ := own_z h.lr
  have hl := lB h.sto
  have SE := hid (seal0 sb tb cb qb dp ib mb cap n D S wn 0 l _ 1 0 w h.sto h.dv)
  have CL := hid (sclear0 h hch)
  have CH := hid (fun W => choose8 l a 0 c [] W rfl (by omega) (fun i hi => by simp [regC] at hi))
  rw [hch, chS_empty hf] at CH
  have FO := hid (fun W => foreignz l a c W h0)
  have SP := hid (fun W => spare11 l a 0 c [] 0 W rfl (by omega) (fun i hi => by simp [regC] at hi))
  rw [spB_empty hf] at SP
  have H := hid h
  clear h h9 h0 hch
  go_enter Tryz.func146, Tryz.ntmps146
  go_wp2_with fail
  with_reducible refine SE.out.mono ?_
  rintro e w1 ⟨rfl, rfl⟩
  go_wp2_with fail
  with_reducible refine CL.out.mono ?_
  rintro e w1 ⟨rfl, hb1⟩
  have H1 := hid (H.out.below hb1)
  have BW1 := hid hb1
  have e12 := qB (i := 12) H1.out.sto
  have e13 := qB (i := 13) H1.out.sto
  have e14 := qB (i := 14) H1.out.sto
  have e15 := qB (i := 15) H1.out.sto
  have hl1 := lB H1.out.sto
  clear hb1
  go_upto_region 8 with fail
  obtain ⟨w2, hw2⟩ : ∃ w2, w1.alloc (.cells #[.int .i64 l.id, .int .i64 l.ver, .int .i64 l.rs, .int .i64 l.rg] 26) = w2 := ⟨_, rfl⟩
  have B12 := hid (show Below w1.heap.size w1 w2 by rw [<- hw2]; exact bel_al1 _)
  have HL2 := hid (show w2.heap[w1.heap.size]? = some (.cells #[.int .i64 l.id, .int .i64 l.ver, .int .i64 l.rs, .int .i64 l.rg] 26 (0, 0)) by rw [<- hw2]; exact nB _ _)
  rw [hw2]
  clear hw2 e12 e13 e14 e15
  have H2 := hid (H1.out.below B12.out)
  have K2 := hid (show ∀ W, Below w2.heap.size w2 W -> (W.cell? ⟨w1.heap.size, 0, none⟩ = some (.int .i64 l.id) /\ W.cell? ⟨w1.heap.size, 1, none⟩ = some (.int .i64 l.ver) /\ W.cell? ⟨w1.heap.size, 2, none⟩ = some (.int .i64 l.rs) /\ W.cell? ⟨w1.heap.size, 3, none⟩ = some (.int .i64 l.rg)) /\ W.cell? ⟨sb, 21, none⟩ = some (.slice a 0 c) /\ W.cell? ⟨sb, 23, none⟩ = some (.int .i64 1) /\ W.cell? ⟨sb, 24, none⟩ = some (.int .i64 0) /\ W.cell? ⟨sb, 5, none⟩ = some (.pointer (some ⟨dp, 0, none⟩)) from fun W hW =>
    have e1 := (hW.block _ (lB HL2.out)).trans HL2.out
    have e2 := (hW.block sb (lB H2.out.sto)).trans H2.out.sto
    ⟨⟨qB e1, qB e1, qB e1, qB e1⟩, qB e2, qB e2, qB e2, qB e2⟩)
  have KD2 := hid (K2.out w2.drew (Below.refl _ _).drew)
  go_region_held3 (fun w' => (w'.cell? ⟨w1.heap.size, 0, none⟩ = some (.int .i64 l.id) /\ w'.cell? ⟨w1.heap.size, 1, none⟩ = some (.int .i64 l.ver) /\ w'.cell? ⟨w1.heap.size, 2, none⟩ = some (.int .i64 l.rs) /\ w'.cell? ⟨w1.heap.size, 3, none⟩ = some (.int .i64 l.rg)) /\ w'.cell? ⟨sb, 21, none⟩ = some (.slice a 0 c) /\ w'.cell? ⟨sb, 23, none⟩ = some (.int .i64 1) /\ w'.cell? ⟨sb, 24, none⟩ = some (.int .i64 0) /\ w'.cell? ⟨sb, 5, none⟩ = some (.pointer (some ⟨dp, 0, none⟩))) (first | with_reducible exact hS1 | with_reducible exact KD2.out)
    (first
      | ((go_at_call 212); (with_reducible refine (CH.out _).mono ?_); (rintro e x1 ⟨rfl, hb1⟩); (have hB1 := bidd hb1); (have hS1 := K2.out _ hB1)))
  have B23 := hid hB1
  clear hb1 hB1 hS1
  have K3 := hid (fun W (hW : Below x1.heap.size x1 W) => K2.out W (tB B23.out hW))
  have KD3 := hid (K3.out x1.drew (Below.refl _ _).drew)
  have hl3 : sb < x1.heap.size := Nat.lt_of_lt_of_le (Nat.lt_of_lt_of_le hl1 B12.out.size) B23.out.size
  have hl3' : w1.heap.size < x1.heap.size := Nat.lt_of_lt_of_le (lB HL2.out) B23.out.size
  go_upto_region 10 with fail
  refine wp_region_held_drew (S := (fun w' => (w'.cell? ⟨w1.heap.size, 0, none⟩ = some (.int .i64 l.id) /\ w'.cell? ⟨w1.heap.size, 1, none⟩ = some (.int .i64 l.ver) /\ w'.cell? ⟨w1.heap.size, 2, none⟩ = some (.int .i64 l.rs) /\ w'.cell? ⟨w1.heap.size, 3, none⟩ = some (.int .i64 l.rg)) /\ w'.cell? ⟨sb, 21, none⟩ = some (.slice a 0 c) /\ w'.cell? ⟨sb, 23, none⟩ = some (.int .i64 1) /\ w'.cell? ⟨sb, 24, none⟩ = some (.int .i64 0) /\ w'.cell? ⟨sb, 5, none⟩ = some (.pointer (some ⟨dp, 0, none⟩)))) (by kernel_rfl) (by with_reducible exact KD3.out) (fun hHeld => ?_)
  refine wpAnyH_takeD (i := 0) (v := .agg #[.int .i64 l.id, .int .i64 l.ver, .int .i64 l.rs, .int .i64 l.rg]) (some 42) rfl rfl (by kernel_rfl) (by kernel_rfl) (by kernel_rfl) (fun _ _ _ h => h) (Or.inl ⟨by rfl, fun w hSw => by (try dsimp only at hSw); first | (go_simp; done) | (go_simp; with_reducible rfl)⟩) (by assumption) ?_
  (try simp only [Act.put, List.setIfInBounds_toArray, List.set_cons_zero, List.set_cons_succ])
  refine wpAnyH_takeD (i := 1) (v := .pointer (some ⟨sb, 0, none⟩)) (some 43) rfl rfl (by kernel_rfl) (by kernel_rfl) (by kernel_rfl) (fun _ _ _ h => h) (Or.inl ⟨by rfl, fun w hSw => by (try dsimp only at hSw); first | (go_simp; done) | (go_simp; with_reducible rfl)⟩) (by assumption) ?_
  (try simp only [Act.put, List.setIfInBounds_toArray, List.set_cons_zero, List.set_cons_succ])
  refine wpAnyH_takeD (i := 2) (v := .pointer (some ⟨sb, 0, none⟩)) (some 44) rfl rfl (by kernel_rfl) (by kernel_rfl) (by kernel_rfl) (fun _ _ _ h => h) (Or.inl ⟨by rfl, fun w hSw => by (try dsimp only at hSw); first | (go_simp; done) | (go_simp; with_reducible rfl)⟩) (by assumption) ?_
  (try simp only [Act.put, List.setIfInBounds_toArray, List.set_cons_zero, List.set_cons_succ])
  refine wpAnyH_takeD (i := 3) (v := .pointer (some ⟨sb, 21, none⟩)) (some 45) rfl rfl (by kernel_rfl) (by kernel_rfl) (by kernel_rfl) (fun _ _ _ h => h) (Or.inl ⟨by rfl, fun w hSw => by (try dsimp only at hSw); first | (go_simp; done) | (go_simp; with_reducible rfl)⟩) (by assumption) ?_
  (try simp only [Act.put, List.setIfInBounds_toArray, List.set_cons_zero, List.set_cons_succ])
  refine wpAnyH_takeD (i := 4) (v := .slice a 0 c) (some 46) rfl rfl (by kernel_rfl) (by kernel_rfl) (by kernel_rfl) (fun _ _ _ h => h) (Or.inl ⟨by rfl, fun w hSw => by (try dsimp only at hSw); first | (go_simp; done) | (go_simp; with_reducible rfl)⟩) (by assumption) ?_
  (try simp only [Act.put, List.setIfInBounds_toArray, List.set_cons_zero, List.set_cons_succ])
  refine wpAnyH_ready (rs := [5]) (by kernel_rfl) (by simp) (AllReadyH.cons rfl (fun K hK => ?_) AllReadyH.nil)
  rw [if_pos (by rfl)]
  go_simp
  with_reducible refine (FO.out _).mono ?_
  rintro e x2 ⟨fa, fc, rfl, hb1⟩
  have hB1 := bidd hb1
  have hS1 := K3.out _ hB1
  go_wp2_with fail
  refine hK.out _ _ (by with_reducible exact hS1) (fun hHeld => ?_)
  clear hK K
  (try simp only [Act.put, List.setIfInBounds_toArray, List.set_cons_zero, List.set_cons_succ])
  refine wpAnyH_takeD (i := 6) (v := .int .i64 0) (some 48) rfl rfl (by kernel_rfl) (by kernel_rfl) (by kernel_rfl) (fun _ _ _ h => h) (Or.inl ⟨by rfl, fun w hSw => by (try dsimp only at hSw); first | (go_simp; done) | (go_simp; with_reducible rfl)⟩) (by assumption) ?_
  (try simp only [Act.put, List.setIfInBounds_toArray, List.set_cons_zero, List.set_cons_succ])
  refine wpAnyH_takeD (i := 7) (v := .bool true) (some 49) rfl rfl (by kernel_rfl) (by kernel_rfl) (by kernel_rfl) (fun _ _ _ h => h) (Or.inl ⟨by rfl, fun w hSw => by (try dsimp only at hSw); first | (go_simp; done) | (go_simp; with_reducible rfl)⟩) (by assumption) ?_
  (try simp only [Act.put, List.setIfInBounds_toArray, List.set_cons_zero, List.set_cons_succ])
  refine wpAnyH_takeD (i := 8) (v := .bool true) (some 50) rfl rfl (by kernel_rfl) (by kernel_rfl) (by kernel_rfl) (fun _ _ _ h => h) (Or.inl ⟨by rfl, fun w hSw => by (try dsimp only at hSw); first | (go_simp; done) | (go_simp; with_reducible rfl)⟩) (by assumption) ?_
  (try simp only [Act.put, List.setIfInBounds_toArray, List.set_cons_zero, List.set_cons_succ])
  refine wpAnyH_takeD (i := 9) (v := .agg #[.int .i64 l.id, .int .i64 l.ver, .int .i64 l.rs, .int .i64 l.rg]) (some 51) rfl rfl (by kernel_rfl) (by kernel_rfl) (by kernel_rfl) (fun _ _ _ h => h) (Or.inl ⟨by rfl, fun w hSw => by (try dsimp only at hSw); first | (go_simp; done) | (go_simp; with_reducible rfl)⟩) (by assumption) ?_
  (try simp only [Act.put, List.setIfInBounds_toArray, List.set_cons_zero, List.set_cons_succ])
  refine wpAnyH_takeD (i := 10) (v := .pointer (some ⟨sb, 0, none⟩)) (some 52) rfl rfl (by kernel_rfl) (by kernel_rfl) (by kernel_rfl) (fun _ _ _ h => h) (Or.inl ⟨by rfl, fun w hSw => by (try dsimp only at hSw); first | (go_simp; done) | (go_simp; with_reducible rfl)⟩) (by assumption) ?_
  (try simp only [Act.put, List.setIfInBounds_toArray, List.set_cons_zero, List.set_cons_succ])
  refine wpAnyH_takeD (i := 11) (v := .pointer (some ⟨sb, 0, none⟩)) (some 53) rfl rfl (by kernel_rfl) (by kernel_rfl) (by kernel_rfl) (fun _ _ _ h => h) (Or.inl ⟨by rfl, fun w hSw => by (try dsimp only at hSw); first | (go_simp; done) | (go_simp; with_reducible rfl)⟩) (by assumption) ?_
  (try simp only [Act.put, List.setIfInBounds_toArray, List.set_cons_zero, List.set_cons_succ])
  refine wpAnyH_takeD (i := 12) (v := .pointer (some ⟨sb, 21, none⟩)) (some 54) rfl rfl (by kernel_rfl) (by kernel_rfl) (by kernel_rfl) (fun _ _ _ h => h) (Or.inl ⟨by rfl, fun w hSw => by (try dsimp only at hSw); first | (go_simp; done) | (go_simp; with_reducible rfl)⟩) (by assumption) ?_
  (try simp only [Act.put, List.setIfInBounds_toArray, List.set_cons_zero, List.set_cons_succ])
  refine wpAnyH_takeD (i := 13) (v := .slice a 0 c) (some 55) rfl rfl (by kernel_rfl) (by kernel_rfl) (by kernel_rfl) (fun _ _ _ h => h) (Or.inl ⟨by rfl, fun w hSw => by (try dsimp only at hSw); first | (go_simp; done) | (go_simp; with_reducible rfl)⟩) (by assumption) ?_
  (try simp only [Act.put, List.setIfInBounds_toArray, List.set_cons_zero, List.set_cons_succ])
  refine wpAnyH_takeD (i := 14) (v := .int .i64 0) (some 56) rfl rfl (by kernel_rfl) (by kernel_rfl) (by kernel_rfl) (fun _ _ _ h => h) (Or.inl ⟨by rfl, fun w hSw => by (try dsimp only at hSw); first | (go_simp; done) | (go_simp; with_reducible rfl)⟩) (by assumption) ?_
  (try simp only [Act.put, List.setIfInBounds_toArray, List.set_cons_zero, List.set_cons_succ])
  refine wpAnyH_ready (rs := [15]) (by kernel_rfl) (by simp) (AllReadyH.cons rfl (fun K hK => ?_) AllReadyH.nil)
  rw [if_pos (by rfl)]
  go_simp
  with_reducible refine (SP.out _).mono ?_
  rintro e x3 ⟨rfl, hb2⟩
  have hB2 := tB hB1 hb2
  have hS2 := K3.out _ hB2
  go_wp2_with fail
  refine hK.out _ _ (by with_reducible exact hS2) (fun hHeld => ?_)
  clear hK K
  (try simp only [Act.put, List.setIfInBounds_toArray, List.set_cons_zero, List.set_cons_succ])
  refine wpAnyH_takeD (i := 16) (v := .bool false) (some 58) rfl rfl (by kernel_rfl) (by kernel_rfl) (by kernel_rfl) (fun _ _ _ h => h) (Or.inl ⟨by rfl, fun w hSw => by (try dsimp only at hSw); first | (go_simp; done) | (go_simp; with_reducible rfl)⟩) (by assumption) ?_
  (try simp only [Act.put, List.setIfInBounds_toArray, List.set_cons_zero, List.set_cons_succ])
  refine wpAnyH_takeD (i := 17) (v := .bool false) (some 59) rfl rfl (by kernel_rfl) (by kernel_rfl) (by kernel_rfl) (fun _ _ _ h => h) (Or.inl ⟨by rfl, fun w hSw => by (try dsimp only at hSw); first | (go_simp; done) | (go_simp; with_reducible rfl)⟩) (by assumption) ?_
  (try simp only [Act.put, List.setIfInBounds_toArray, List.set_cons_zero, List.set_cons_succ])
  refine wpAnyH_takeD (i := 18) (v := .bool false) (some 60) rfl rfl (by kernel_rfl) (by kernel_rfl) (by kernel_rfl) (fun _ _ _ h => h) (Or.inl ⟨by rfl, fun w hSw => by (try dsimp only at hSw); first | (go_simp; done) | (go_simp; with_reducible rfl)⟩) (by assumption) ?_
  (try simp only [Act.put, List.setIfInBounds_toArray, List.set_cons_zero, List.set_cons_succ])
  refine wpAnyH_takeD (i := 19) (v := undef) (some 61) rfl rfl (by kernel_rfl) (by kernel_rfl) (by kernel_rfl) (fun _ _ _ h => h) (Or.inr ⟨by rfl, rfl⟩) (by assumption) ?_
  (try simp only [Act.put, List.setIfInBounds_toArray, List.set_cons_zero, List.set_cons_succ])
  refine wpAnyH_takeD (i := 20) (v := undef) (some 62) rfl rfl (by kernel_rfl) (by kernel_rfl) (by kernel_rfl) (fun _ _ _ h => h) (Or.inr ⟨by rfl, rfl⟩) (by assumption) ?_
  (try simp only [Act.put, List.setIfInBounds_toArray, List.set_cons_zero, List.set_cons_succ])
  refine wpAnyH_takeD (i := 21) (v := undef) (some 63) rfl rfl (by kernel_rfl) (by kernel_rfl) (by kernel_rfl) (fun _ _ _ h => h) (Or.inr ⟨by rfl, rfl⟩) (by assumption) ?_
  (try simp only [Act.put, List.setIfInBounds_toArray, List.set_cons_zero, List.set_cons_succ])
  refine wpAnyH_takeD (i := 22) (v := undef) (some 64) rfl rfl (by kernel_rfl) (by kernel_rfl) (by kernel_rfl) (fun _ _ _ h => h) (Or.inr ⟨by rfl, rfl⟩) (by assumption) ?_
  (try simp only [Act.put, List.setIfInBounds_toArray, List.set_cons_zero, List.set_cons_succ])
  refine wpAnyH_takeD (i := 23) (v := undef) (some 65) rfl rfl (by kernel_rfl) (by kernel_rfl) (by kernel_rfl) (fun _ _ _ h => h) (Or.inr ⟨by rfl, rfl⟩) (by assumption) ?_
  (try simp only [Act.put, List.setIfInBounds_toArray, List.set_cons_zero, List.set_cons_succ])
  refine wpAnyH_takeD (i := 24) (v := undef) (some 66) rfl rfl (by kernel_rfl) (by kernel_rfl) (by kernel_rfl) (fun _ _ _ h => h) (Or.inr ⟨by rfl, rfl⟩) (by assumption) ?_
  (try simp only [Act.put, List.setIfInBounds_toArray, List.set_cons_zero, List.set_cons_succ])
  refine wpAnyH_takeD (i := 25) (v := .bool false) (some 67) rfl rfl (by kernel_rfl) (by kernel_rfl) (by kernel_rfl) (fun _ _ _ h => h) (Or.inl ⟨by rfl, fun w hSw => by (try dsimp only at hSw); first | (go_simp; done) | (go_simp; with_reducible rfl)⟩) (by assumption) ?_
  (try simp only [Act.put, List.setIfInBounds_toArray, List.set_cons_zero, List.set_cons_succ])
  refine wpAnyH_done (by kernel_rfl) ?_ _
  have B33 := hid (tB B23.out hB2)
  have H4 := hid (H2.out.below B33.out)
  have K4 := hid (fun W (hW : Below x3.heap.size x3 W) => K2.out W (tB B33.out hW))
  clear hb1 hB1 hS1 hb2 hB2 hS2
  have TL := hid (fun W (hW : Below x3.heap.size x3 W) => stail0 (H4.out.below hW))
  have D0 := hid ((Below.refl x3.heap.size x3).drew)
  have D1 := hid (fun (o : Obj) => (bel_al1 (w := x3) o).drew)
  have KD4 := hid (K4.out _ D0.out)
  have KA4 := hid (fun (o : Obj) => K4.out _ (D1.out o))
  go_upto_region 14 with fail
  go_cut [12] (fun v12 wx => ∃ hk, v12 = .pointer (some ⟨hk, 0, none⟩) /\ x3.heap.size <= hk /\ wx.heap[hk]? = some (.cells #[.int .i64 l.ver, .int .i64 0, .int .i64 l.id, .int .i64 1, .int .i64 1, .int .i64 0] 66 (0, 0)) /\ Below x3.heap.size x3 wx)
  case first =>
    go_region_held3 (fun w' => (w'.cell? ⟨w1.heap.size, 0, none⟩ = some (.int .i64 l.id) /\ w'.cell? ⟨w1.heap.size, 1, none⟩ = some (.int .i64 l.ver) /\ w'.cell? ⟨w1.heap.size, 2, none⟩ = some (.int .i64 l.rs) /\ w'.cell? ⟨w1.heap.size, 3, none⟩ = some (.int .i64 l.rg)) /\ w'.cell? ⟨sb, 21, none⟩ = some (.slice a 0 c) /\ w'.cell? ⟨sb, 23, none⟩ = some (.int .i64 1) /\ w'.cell? ⟨sb, 24, none⟩ = some (.int .i64 0) /\ w'.cell? ⟨sb, 5, none⟩ = some (.pointer (some ⟨dp, 0, none⟩))) (first | with_reducible exact hS4 | with_reducible exact hS5 _ | with_reducible exact K4.out _ (sB (sB (sB (sB (sB (sB hB4 (Nat.le_refl _)) (Nat.le_refl _)) (Nat.le_refl _)) (Nat.le_refl _)) (Nat.le_refl _)) (Nat.le_refl _)) | with_reducible exact KD4.out | with_reducible exact KA4.out _)
      (first
        | ((go_at_call 216); (with_reducible refine (TL.out _ D0.out).mono ?_); (rintro e x4 ⟨rfl, hb4⟩); (have hB4 := bidd hb4); (have hS4 := K4.out _ hB4); (have hS5 := fun (o : Obj) => K4.out _ (bel_al hB4 o)))
        | ((go_at_call 216); (with_reducible refine (TL.out _ (D1.out _)).mono ?_); (rintro e x4 ⟨rfl, hb4⟩); (have hB4 := (bel1d (w := x3) hb4).1); (have hZ4 := (bel1d (w := x3) hb4).2); (have hS4 := K4.out _ hB4); (have z0 := qB (i := 0) hZ4); (have z1 := qB (i := 1) hZ4); (have z2 := qB (i := 2) hZ4); (have z3 := qB (i := 3) hZ4); (have z4 := qB (i := 4) hZ4); (have z5 := qB (i := 5) hZ4); (have y0 := zB (i := 0) hZ4); (have y1 := zB (i := 1) hZ4); (have y2 := zB (i := 2) hZ4); (have y3 := zB (i := 3) hZ4); (have y4 := zB (i := 4) hZ4); (have y5 := zB (i := 5) hZ4)))
    all_goals
      go_wp2_with fail
      go_meet
      first
        | exact ⟨_, rfl, Nat.le_refl _, set6 hZ4 _ _ _ _ _ _, sB (sB (sB (sB (sB (sB hB4 (Nat.le_refl _)) (Nat.le_refl _)) (Nat.le_refl _)) (Nat.le_refl _)) (Nat.le_refl _)) (Nat.le_refl _)⟩
        | exact ⟨_, rfl, hB4.size, nB _ _, bel_al hB4 _⟩
  case rest =>
    obtain ⟨hk, rfl, hhb', hh, hbq⟩ := hcut
    obtain ⟨wq, rfl⟩ : ∃ q, q = wc := ⟨_, rfl⟩
    have hhb := hid hhb'
    have HH := hid hh
    have BQ := hid hbq
    clear hhb' hh hbq
    clear TL D0 D1 KD4 KA4 CH FO SP
    have H5 := hid (H4.out.below BQ.out)
    have hk5 := lB HH.out
    have KX := hid (show ∀ W, Fr (devF dp ib mb) wq W -> ((W.cell? ⟨w1.heap.size, 0, none⟩ = some (.int .i64 l.id) /\ W.cell? ⟨w1.heap.size, 1, none⟩ = some (.int .i64 l.ver) /\ W.cell? ⟨w1.heap.size, 2, none⟩ = some (.int .i64 l.rs) /\ W.cell? ⟨w1.heap.size, 3, none⟩ = some (.int .i64 l.rg)) /\ W.cell? ⟨sb, 5, none⟩ = some (.pointer (some ⟨dp, 0, none⟩))) /\ W.cell? ⟨hk, 0, none⟩ = some (.int .i64 l.ver) /\ W.cell? ⟨hk, 1, none⟩ = some (.int .i64 0) /\ W.cell? ⟨hk, 2, none⟩ = some (.int .i64 l.id) /\ W.cell? ⟨hk, 3, none⟩ = some (.int .i64 1) /\ W.cell? ⟨hk, 4, none⟩ = some (.int .i64 1) /\ W.cell? ⟨hk, 5, none⟩ = some (.int .i64 0) from fun W hW =>
      have q := K4.out wq BQ.out
      have n1 : ¬ devF dp ib mb w1.heap.size := fun hj => by have h1 := H1.out.k2 _ hj; have h2 := H1.out.k0 _ (Nat.le_refl _); omega
      have n2 : ¬ devF dp ib mb sb := fun hj => by have h1 := H1.out.k2 _ hj; have h2 := H1.out.k5; omega
      have n3 : ¬ devF dp ib mb hk := fun hj => by have h1 := H4.out.k2 _ hj; have h2 := H4.out.k0 _ hhb.out; omega
      have l1 : w1.heap.size < wq.heap.size := Nat.lt_of_lt_of_le (Nat.lt_of_lt_of_le (lB HL2.out) B33.out.size) BQ.out.size
      have c1 : ∀ i, W.cell? ⟨w1.heap.size, i, none⟩ = wq.cell? ⟨w1.heap.size, i, none⟩ := fun i => fr_cell hW l1 n1 i
      have c2 := fr_cell hW (lB H5.out.sto) n2 5
      have e3 := (hW.block hk (lB HH.out) n3).trans HH.out
      ⟨⟨⟨(c1 0).trans q.1.1, (c1 1).trans q.1.2.1, (c1 2).trans q.1.2.2.1, (c1 3).trans q.1.2.2.2⟩, c2.trans q.2.2.2.2⟩, qB e3, qB e3, qB e3, qB e3, qB e3, qB e3⟩)
    have KXD := hid (KX.out wq.drew ((Fr.refl _ _).drew))
    have RO := hid (ropen8 T dp ib mb cap n D S wn 74 l (hd1 l) wq.drew (H5.out.dv.below (Below.refl _ _).drew) (H5.out.ct.below (Below.refl _ _).drew H5.out.ct.lt) hf (hd1_ok hf) rfl rfl (by have := formB_rng hf; show (0 : Int) < l.rg; omega) (by rw [show (hd1 l).slot = ((0 : Nat) : Int) from rfl, firstD_nat hf 0 (by have := formB_rng hf; omega)]; simp) (by omega) hwr (fun j hj => by have h1 := H5.out.k2 j hj; have h2 := H5.out.kz; exact Nat.pos_of_ne_zero (fun e => by rw [e] at h1; omega)))
    unfold layV at RO
    simp only [hd1, Hd.vals] at RO
    go_upto_region 15 with fail
    go_region_held3 (fun w' => ((w'.cell? ⟨w1.heap.size, 0, none⟩ = some (.int .i64 l.id) /\ w'.cell? ⟨w1.heap.size, 1, none⟩ = some (.int .i64 l.ver) /\ w'.cell? ⟨w1.heap.size, 2, none⟩ = some (.int .i64 l.rs) /\ w'.cell? ⟨w1.heap.size, 3, none⟩ = some (.int .i64 l.rg)) /\ w'.cell? ⟨sb, 5, none⟩ = some (.pointer (some ⟨dp, 0, none⟩))) /\ w'.cell? ⟨hk, 0, none⟩ = some (.int .i64 l.ver) /\ w'.cell? ⟨hk, 1, none⟩ = some (.int .i64 0) /\ w'.cell? ⟨hk, 2, none⟩ = some (.int .i64 l.id) /\ w'.cell? ⟨hk, 3, none⟩ = some (.int .i64 1) /\ w'.cell? ⟨hk, 4, none⟩ = some (.int .i64 1) /\ w'.cell? ⟨hk, 5, none⟩ = some (.int .i64 0)) (first | with_reducible exact hS6 | with_reducible exact KXD.out)
      (first
        | ((go_at_call 217); (with_reducible refine RO.out.mono ?_); (rintro e x6 ⟨rb, pb, n6, rfl, hrp6, hd6, hr6, hf6⟩); (have hS6 := KX.out _ (fr_undrew hf6))))
    have f6 := fr_undrew hf6
    have n5 : ¬ devF dp ib mb sb := fun hj => by have h1 := H1.out.k2 _ hj; have h2 := H1.out.k5; omega
    have HB6 := hid (show StB x6 sb tb cb qb dp 0 l (.slice a 0 c) none 1 0 from H5.out.sto.fr f6 n5)
    have R6 := hid hr6
    have D6 := hid hd6
    have F6 := hid f6
    have hrb : wq.heap.size <= rb /\ wq.heap.size <= pb := hrp6
    have HRB := hid hrb
    have hs6 : ¬ rb = sb := by have := lB H5.out.sto; omega
    have HS6 := hid hS6
    clear hf6 hS6 hd6 hr6 f6 hrp6 RO KXD KX hrb
    go_wp2_with fail
    with_reducible refine (did8 sb _).mono ?_
    rintro e w6 ⟨rfl, rfl⟩
    have e22 := qB (i := 22) HB6.out
    have y22 := zB (i := 22) HB6.out
    go_upto_region 19 with fail
    obtain ⟨x7, hx7⟩ : ∃ x7, x6.setCell ⟨sb, 22, none⟩ (.pointer (some ⟨rb, 0, none⟩)) = x7 := ⟨_, rfl⟩
    have H7 := hid (show StB x7 sb tb cb qb dp 0 l (.slice a 0 c) (some rb) 1 0 by rw [<- hx7]; exact uB HB6.out _)
    have F7 := hid (show Fr (fun j => j = sb) x6 x7 by rw [<- hx7]; exact fS _ _ _ _)
    have hs7 := hid (show x7.heap.size = x6.heap.size by rw [<- hx7]; exact World.size_setCell _ _ _)
    rw [hx7]
    clear hx7 e22 y22
    have hlw : w1.heap.size < x6.heap.size := World.block_lt_of_cell? _ _ HS6.out.1.1.1
    have hkw : hk < x6.heap.size := World.block_lt_of_cell? _ _ HS6.out.2.1
    have hnw : ¬ w1.heap.size = sb := by have := lB H1.out.sto; omega
    have hnk : ¬ hk = sb := by have h1 := lB H4.out.sto; have h2 := hhb.out; omega
    have ca := hid (fun (b i : Nat) (hb : b < x6.heap.size) (hn : ¬ b = sb) => fr_cell (S := fun j => j = sb) F7.out hb hn i)
    have m0 : x7.cell? ⟨w1.heap.size, 0, none⟩ = some (.int .i64 l.id) := (ca.out _ 0 hlw hnw).trans HS6.out.1.1.1
    have m1 : x7.cell? ⟨w1.heap.size, 1, none⟩ = some (.int .i64 l.ver) := (ca.out _ 1 hlw hnw).trans HS6.out.1.1.2.1
    have m2 : x7.cell? ⟨w1.heap.size, 2, none⟩ = some (.int .i64 l.rs) := (ca.out _ 2 hlw hnw).trans HS6.out.1.1.2.2.1
    have m3 : x7.cell? ⟨w1.heap.size, 3, none⟩ = some (.int .i64 l.rg) := (ca.out _ 3 hlw hnw).trans HS6.out.1.1.2.2.2
    have g0 : x7.cell? ⟨hk, 0, none⟩ = some (.int .i64 l.ver) := (ca.out _ 0 hkw hnk).trans HS6.out.2.1
    have g1 : x7.cell? ⟨hk, 1, none⟩ = some (.int .i64 0) := (ca.out _ 1 hkw hnk).trans HS6.out.2.2.1
    have g2 : x7.cell? ⟨hk, 2, none⟩ = some (.int .i64 l.id) := (ca.out _ 2 hkw hnk).trans HS6.out.2.2.2.1
    have g3 : x7.cell? ⟨hk, 3, none⟩ = some (.int .i64 1) := (ca.out _ 3 hkw hnk).trans HS6.out.2.2.2.2.1
    have g4 : x7.cell? ⟨hk, 4, none⟩ = some (.int .i64 1) := (ca.out _ 4 hkw hnk).trans HS6.out.2.2.2.2.2.1
    have g5 : x7.cell? ⟨hk, 5, none⟩ = some (.int .i64 0) := (ca.out _ 5 hkw hnk).trans HS6.out.2.2.2.2.2.2
    have e21 : x7.cell? ⟨sb, 21, none⟩ = some (.slice a 0 c) := qB (i := 21) H7.out
    have hl7 := lB H7.out
    have O7 := hid (own_fr (own_fr H5.out.lr F6.out (fun b hb hj => by have h1 := H5.out.k4 b hb; have h2 := H5.out.k2 b hj; omega)) F7.out (fun b hb hj => by have h1 := H5.out.k4 b hb; have h2 := H5.out.k5; rw [hj] at h1; omega))
    have KG := hid (show ∀ (o : Obj) W, ((x7.alloc o).drew).grownBy W (Value.slice a 0 c).ownBlock -> StB W sb tb cb qb dp 0 l (.slice a 0 c) (some rb) 1 0 from fun o W hg => (hg.block sb (by show sb < (x7.alloc o).heap.size; simp; omega) (fun e => by have h1 := H5.out.k4 sb e.symm; have h2 := H5.out.k5; omega)).trans (old_at H7.out o))
    have FIN := hid (show ∀ (o : Obj) (g cp : Nat) (W : World), ((x7.alloc o).drew).grownBy W (Value.slice a 0 c).ownBlock -> W.ownsRow 0 68 10 (.slice (some ⟨g, 0, none⟩) (0 + 1) cp) (0 + 1) ([] ++ [.int .i64 l.ver, .int .i64 0, .int .i64 l.id, .int .i64 1, .int .i64 1, .int .i64 0, .int .i64 l.id, .int .i64 l.ver, .int .i64 l.rs, .int .i64 l.rg]) -> ((Value.slice a 0 c).ownBlock = some g \/ g = x7.heap.size + 1) -> StB (W.setCell ⟨sb, 21, none⟩ (.slice (some ⟨g, 0, none⟩) 1 cp)) sb tb cb qb dp 0 l (.slice (some ⟨g, 0, none⟩) 1 cp) (some rb) 1 0 /\ (W.setCell ⟨sb, 21, none⟩ (.slice (some ⟨g, 0, none⟩) 1 cp)).ownsRow 0 68 10 (.slice (some ⟨g, 0, none⟩) 1 cp) 1 (regC [rg1 l]) /\ Fr (fun j => j = sb \/ (Value.slice a 0 c).ownBlock = some j) x7 (W.setCell ⟨sb, 21, none⟩ (.slice (some ⟨g, 0, none⟩) 1 cp)) /\ ((Value.slice a 0 c).ownBlock = some g \/ x7.heap.size <= g) from fun o g cp W hg ho hat => by
      have hgs : ¬ g = sb := by
        rcases hat with h | h
        · have h1 := H5.out.k4 g h; have h2 := H5.out.k5; intro e; rw [e] at h1; omega
        · omega
      refine ⟨uB (KG.out o W hg) _, own_fr ho (fS _ _ _ _) (fun b hb hj => ?_), (((Fr.of_below (S := fun j => j = sb \/ (Value.slice a 0 c).ownBlock = some j) ((bel_al1 o).drew)).trans (Fr.of_grown (S := fun j => (Value.slice a 0 c).ownBlock = some j) hg (fun k hk => hk)) (fun j hj => .inl (.inr hj))).trans (fS _ _ _ _) (fun j hj => .inl (.inl hj))), hat.imp id (fun h => by omega)⟩
      have : g = b := by injection hb
      omega)
    go_cut [] (fun wx => ∃ g cp, StB wx sb tb cb qb dp 0 l (.slice (some ⟨g, 0, none⟩) 1 cp) (some rb) 1 0 /\ wx.ownsRow 0 68 10 (.slice (some ⟨g, 0, none⟩) 1 cp) 1 (regC [rg1 l]) /\ Fr (fun j => j = sb \/ (Value.slice a 0 c).ownBlock = some j) x7 wx /\ ((Value.slice a 0 c).ownBlock = some g \/ x7.heap.size <= g))
    case first =>
      go_region_law ((with_reducible apply step_append_lies (hgd := rfl) (t := 59) (base := 0) (e := 68) (i := i0) (z := .agg #[.int .i64 0, .int .i64 0, .int .i64 0, .int .i64 0, .int .i64 0, .int .i64 0, .int .i64 0, .int .i64 0, .int .i64 0, .int .i64 0]) (size := 10) (bytes := 80) (v := .slice a 0 c) (n := 0) (xs := []) (m := 1) (news := [.int .i64 l.ver, .int .i64 0, .int .i64 l.id, .int .i64 1, .int .i64 1, .int .i64 0, .int .i64 l.id, .int .i64 l.ver, .int .i64 l.rs, .int .i64 l.rg]) (ht := Tryz.underlying59) (hi := I1.out) (hz := I2.out) (hsize := I3.out) (hby := I4.out) (hzs := rfl) (ad := ⟨x7.heap.size, 0, none⟩) (c := 1) (H := x7.heap.size + 1)); (case ho => exact rfl); (case hs => exact rfl); (case hx => exact rfl); (case hsz => decide); (case hown => exact (O7.out.alloc _).drew); (case hl => exact rfl); (case hnews => exact World.news_of_block (B := x7.heap.size) (t := 68) (fr := (0, 0)) (cs := #[.int .i64 l.ver, .int .i64 0, .int .i64 l.id, .int .i64 1, .int .i64 1, .int .i64 0, .int .i64 l.id, .int .i64 l.ver, .int .i64 l.rs, .int .i64 l.rg]) (nB _ _)); (case h1 => exact ints_one .i64 [_, _, _, _, _, _, _, _, _, _]); (case hm => decide); (case h63 => decide); (case hbytes => omega); (case hbase => exact Nat.zero_le _); (case hH => exact heap_alloc_size _ _); (intro g cp w8 hown8 hgrow8 hat8 hlt8); (have k8 := hid (KG.out _ _ hgrow8)); (have f21 := zB (i := 21) k8.out); (have e21b := qB (i := 21) k8.out))
      all_goals
        have E8 := hid hown8
        have G8 := hid hgrow8
        have A8 := hid hat8
        clear hown8 hgrow8 hat8
        go_wp2_with fail
        go_meet
        exact ⟨g, cp, FIN.out _ g cp _ G8.out E8.out A8.out⟩
    case rest =>
      obtain ⟨g, cp, h8, o8, f8, hat⟩ := hcut
      obtain ⟨w9, rfl⟩ : ∃ q, q = wc := ⟨_, rfl⟩
      have e23 := qB (i := 23) h8
      have y23 := zB (i := 23) h8
      have hl9 := lB h8
      have FF := hid (fS w9 sb 23 (.int .i64 2))
      have SF := hid (show Ss1 (w9.setCell ⟨sb, 23, none⟩ (.int .i64 2)) T sb tb cb qb dp ib mb cap n6 (.map []) (S.set 74 (hdE (crcF T) 74 (hd1 l))) (wn + 1) l 0 none N P Q R (.slice (some ⟨g, 0, none⟩) 1 cp) rb pb [] 0 (.slice none 0 0) (paint x7 w9 4 (paint wq x6 3 col)) /\ CStep w (w9.setCell ⟨sb, 23, none⟩ (.int .i64 2)) col (paint x7 w9 4 (paint wq x6 3 col)) from by
        have s67 : x7.heap.size = x6.heap.size := by
          have h1 := F7.out.size
          have h2 := hs7.out
          omega
        have sq6 : wq.heap.size <= x6.heap.size := F6.out.size
        have s79 : x7.heap.size <= w9.heap.size := f8.size
        have sf : w9.heap.size = (w9.setCell ⟨sb, 23, none⟩ (.int .i64 2)).heap.size := (World.size_setCell _ _ _).symm
        have own4 : ∀ b, (Value.slice a 0 c).ownBlock = some b -> b < wq.heap.size /\ col b = 4 := fun b hb => ⟨(H5.out.lr.lt b hb).2, H5.out.k4 b hb⟩
        have f69 : Fr (fun j => j = sb \/ (Value.slice a 0 c).ownBlock = some j) x6 (w9.setCell ⟨sb, 23, none⟩ (.int .i64 2)) := ((F7.out.mono (fun j _ hj => .inl hj)).trans f8 (fun j hj => .inl hj)).trans FF.out (fun j hj => .inl (.inl hj))
        have fq9 : Fr (fun j => devF dp ib mb j \/ j = sb \/ (Value.slice a 0 c).ownBlock = some j) wq (w9.setCell ⟨sb, 23, none⟩ (.int .i64 2)) := (F6.out.mono (fun j _ hj => .inl hj)).trans f69 (fun j hj => .inl (.inr hj))
        have kq : ∀ j, devF dp ib mb j \/ j = sb \/ (Value.slice a 0 c).ownBlock = some j -> col j = 2 \/ col j = 5 \/ col j = 4 := fun j hj => hj.imp (H5.out.k2 j) (fun h => h.imp (fun e => by rw [e]; exact H5.out.k5) (fun e => (own4 j e).2))
        have pc : ∀ j, j < wq.heap.size -> paint x7 w9 4 (paint wq x6 3 col) j = col j := fun j hj => (paint_old (by omega)).trans (paint_old hj)
        have gw : ∀ b, (Value.slice (some ⟨g, 0, none⟩) 1 cp).ownBlock = some b -> b = g := fun b hb => by injection hb with e; exact e.symm
        have hgs : ¬ g = sb := by
          rcases hat with h | h
          · have h1 := (own4 g h).2; have h2 := H5.out.k5; intro e; rw [e] at h1; omega
          · have := lB H5.out.sto; omega
        have rl : ∀ j, regF rb pb (.slice none 0 0) j -> wq.heap.size <= j := fun j hj => by
          rcases hj with e | e | e
          · rw [e]; exact HRB.out.1
          · rw [e]; exact HRB.out.2
          · cases e
        refine ⟨⟨uB h8 _, H5.out.ix.fr fq9 (fun j hj hs => by have h1 := H5.out.k1 j hj; have h2 := kq j hs; omega), D6.out.fr f69 (fun j hj hs => ?_), own_fr o8 FF.out (fun b hb hj => hgs ((gw b hb).symm.trans hj)), R6.out.fr f69 (fun j hj hs => ?_), H5.out.ct.fr fq9 (fun hs => ?_), fun j hj => ?_, (pc 0 H5.out.ct.lt).trans H5.out.kz, fun j hj => (pc j (H5.out.ix.lt j hj)).trans (H5.out.k1 j hj), fun j hj => (pc j (H5.out.dv.lt j hj)).trans (H5.out.k2 j hj), fun j hj => ?_, fun b hb => ?_, (pc sb (lB H5.out.sto)).trans H5.out.k5⟩, ⟨?_, fun j hj => ?_⟩⟩
        · have h1 := H5.out.k2 j hj
          rcases hs with e | e
          · have h2 := H5.out.k5; rw [e] at h1; omega
          · have h2 := (own4 j e).2; omega
        · have h1 := rl j hj
          rcases hs with e | e
          · have := lB H5.out.sto; omega
          · have := (own4 j e).1; omega
        · have h1 := kq 0 hs; have h2 := H5.out.kz; omega
        · rw [<- sf] at hj
          exact (if_neg (by omega)).trans ((if_neg (by omega)).trans (H5.out.k0 j (by omega)))
        · have h1 := rl j hj
          have h2 := R6.out.lt j hj
          exact (paint_old (by omega)).trans (paint_new h1 h2)
        · rw [gw b hb]
          rcases hat with h | h
          · exact (pc g (own4 g h).1).trans (own4 g h).2
          · exact paint_new h (o8.lt g rfl).2
        · have bq := tB (tB (tB BW1.out B12.out) B33.out) BQ.out
          exact (Fr.of_below bq).trans fq9 (fun j hj => .inl (fun e => by have := kq j hj; omega))
        · have bq := tB (tB (tB BW1.out B12.out) B33.out) BQ.out
          exact pc j (Nat.lt_of_lt_of_le hj bq.size))
      clear f8 o8 hat
      go_wp2_with fail
      go_loopw [135] (fun i wr => i = .int .i64 0 /\ wr = w9.setCell ⟨sb, 23, none⟩ (.int .i64 2)) (fun _ _ => 0)
      case atStart => exact ⟨rfl, rfl⟩
      case round =>
        obtain ⟨rfl, rfl⟩ := hrel
        go_wp2_with fail
        go_ret
        exact ⟨rfl, _, _, _, _, _, SF.out⟩
end
theorem rd8_fr {w w' : World} {F : Nat -> Prop} {a : Option Addr} {n cap : Nat} {bs : List Int} (h : Rd8 w a n cap bs) (hf : Fr F w w') (hF : ∀ ad, a = some ad -> n = 0 \/ ¬ F ad.block) : Rd8 w' a n cap bs := by
  rcases Nat.eq_zero_or_pos n with q | q
  · exact ⟨h.len, fun i hi => absurd hi (by omega), h.cap_le, h.nil, h.byt⟩
  · exact h.fr hf (fun ad e => (hF ad e).resolve_left (by omega))
section
variable {w : World} {T : Nat -> Int} {sb tb cb qb dp ib mb cap n wn N : Nat} {D : DataW Nat} {S : List (List Int)} {l : Lay} {P Q R : Nat -> Prop} {lv : Value} {col : Nat -> Nat}
theorem sappend1 (h : Ss0 w T sb tb cb qb dp ib mb cap n D S wn l 0 N P Q R lv col) (r : Rec) (ka va : Option Addr) (kn kc vn vc : Nat) (hk : Rd8 w ka kn kc r.key) (hv : Rd8 w va vn vc r.val) (hka : ∀ ad, ka = some ad -> col ad.block = 0) (hva : ∀ ad, va = some ad -> vn = 0 \/ col ad.block = 0)
    (hf : formB l = true) (hS : 76 <= S.length) (hwr : wn + 1 <= 1000000) (hc : recChk l.ver r = 0) (hkd : r.kind = 1) (hex : 0 < r.exp) (hlen : 16 + kn + vn < 59) (hN : N <= 1000) :
    Calls prog 80 #[.pointer (some ⟨sb, 0, none⟩), recV r.kind r.exp ka kn kc va vn vc] w fun e w' => e = .returned (.int .i64 0) /\ ∃ n' lv' rb pb P' Q' R' sv' col', Ss1 w' T sb tb cb qb dp ib mb cap n' (.map []) (S.set 74 (hdE (crcF T) 74 (hd1 l))) (wn + 1) l 0 (some (strOfNums r.key, ⟨1, 0, ((16 + kn + vn : Nat) : Int), r.exp, false⟩)) (N + 1) P' Q' R' lv' rb pb (recE T l.ver 1 0 r) 0 sv' col' /\ CStep w w' col col' := by
  obtain ⟨hver, k1, k3, k255, v65, e0, e1, hn1, hk3, hkn⟩ := recChk_ok hc
  have hkl := hk.len
  have hvl := hv.len
  have hcap := capD_rng hf
  have hl := lB h.sto
  obtain ⟨w0, hw0⟩ : ∃ w0, w.alloc (.cells #[.int .i64 r.kind, .slice ka kn kc, .slice va vn vc, .int .i64 r.exp] 161) = w0 := ⟨_, rfl⟩
  have B0 := hid (show Below w.heap.size w w0 by rw [<- hw0]; exact bel_al1 _)
  have HX0 := hid (show w0.heap[w.heap.size]? = some (.cells #[.int .i64 r.kind, .slice ka kn kc, .slice va vn vc, .int .i64 r.exp] 161 (0, 0)) by rw [<- hw0]; exact nB _ _)
  have H0 := hid (h.below B0.out)
  have HB := hid (h.k0 _ (Nat.le_refl _))
  have KA := hid hka
  have VA := hid hva
  have HK := hid hk
  have HV := hid hv
  have HC := hid hc
  have HKD := hid hkd
  have HEX := hid hex
  have HN := hid hN
  have HFO := hid hf
  have HL := hid (show ((0 + (16 + kn + vn) : Nat) : Int) <= capD l by omega)
  have HL2 := hid (show 0 + (16 + kn + vn) < (0 + 1) * 59 by omega)
  have KX := hid (show ∀ W, Below w0.heap.size w0 W -> (W.cell? ⟨sb, 12, none⟩ = some (.int .i64 l.id) /\ W.cell? ⟨sb, 13, none⟩ = some (.int .i64 l.ver) /\ W.cell? ⟨sb, 14, none⟩ = some (.int .i64 l.rs) /\ W.cell? ⟨sb, 15, none⟩ = some (.int .i64 l.rg)) /\ (W.cell? ⟨sb, 22, none⟩ = some (.pointer none) /\ W.cell? ⟨sb, 23, none⟩ = some (.int .i64 1)) /\ W.cell? ⟨w.heap.size, 0, none⟩ = some (.int .i64 r.kind) /\ W.cell? ⟨w.heap.size, 1, none⟩ = some (.slice ka kn kc) /\ W.cell? ⟨w.heap.size, 2, none⟩ = some (.slice va vn vc) /\ W.cell? ⟨w.heap.size, 3, none⟩ = some (.int .i64 r.exp) from fun W hW =>
    have e := (hW.block w.heap.size (lB HX0.out)).trans HX0.out
    have e' := (hW.block sb (lB H0.out.sto)).trans H0.out.sto
    ⟨⟨qB e', qB e', qB e', qB e'⟩, ⟨qB e', qB e'⟩, qB e, qB e, qB e, qB e⟩)
  have KD := hid (KX.out w0.drew (Below.refl _ _).drew)
  have DN := hid (down8 sb tb cb qb dp ib mb cap n D S wn 0 l _ none 1 0 w0 H0.out.sto H0.out.dv)
  have CK := hid (fun W => rchk8 l.ver r ka va kn kc vn vc W hc hkl hvl)
  have CL := hid (fun W => capacity14 l.id l.ver l.rs l.rg W)
  rw [show (⟨l.id, l.ver, l.rs, l.rg⟩ : Lay) = l from rfl] at CL
  have RL := hid (fun W => rlen8 r.kind r.exp ka va kn kc vn vc W (by omega) (by omega))
  have hg1 : ((16 + kn + vn : Nat) : Int) <= capD l := by omega
  have hl0 : sb < w0.heap.size := lB H0.out.sto
  unfold recV at *
  obtain ⟨cp, hcp⟩ : ∃ q, capD l = q := ⟨_, rfl⟩
  rw [hcp] at CL hg1
  have BG := hid (fun W (hW : Below w0.heap.size w0 W) => sbegin0 (((16 + kn + vn : Nat) : Int)) (H0.out.below hW) hf hS hwr)
  obtain ⟨rl, hrl⟩ : ∃ q, 16 + kn + vn = q := ⟨_, rfl⟩
  rw [hrl] at RL hg1 BG HL HL2 ⊢
  have HRL := hid hrl
  have hg2 : ¬ ((rl : Int) > cp) := by omega
  clear hver k1 k3 k255 v65 e0 e1 hn1 hk3 hkn hkl hvl hcap h hk hv hka hva hf hS hwr hc hkd hex hlen hN hcp hrl
  go_enter Tryz.func80, Tryz.ntmps80
  go_wp2_with fail
  (try rw [hw0])
  clear hw0
  with_reducible refine DN.out.mono ?_
  rintro e x9 ⟨rfl, rfl⟩
  go_upto_region 3 with fail
  go_region_held3 (fun w' => (w'.cell? ⟨sb, 12, none⟩ = some (.int .i64 l.id) /\ w'.cell? ⟨sb, 13, none⟩ = some (.int .i64 l.ver) /\ w'.cell? ⟨sb, 14, none⟩ = some (.int .i64 l.rs) /\ w'.cell? ⟨sb, 15, none⟩ = some (.int .i64 l.rg)) /\ (w'.cell? ⟨sb, 22, none⟩ = some (.pointer none) /\ w'.cell? ⟨sb, 23, none⟩ = some (.int .i64 1)) /\ w'.cell? ⟨w.heap.size, 0, none⟩ = some (.int .i64 r.kind) /\ w'.cell? ⟨w.heap.size, 1, none⟩ = some (.slice ka kn kc) /\ w'.cell? ⟨w.heap.size, 2, none⟩ = some (.slice va vn vc) /\ w'.cell? ⟨w.heap.size, 3, none⟩ = some (.int .i64 r.exp)) (first | with_reducible exact hS1 | with_reducible exact KD.out)
    (first
      | ((go_at_call 142); (with_reducible refine (CK.out _).mono ?_); (rintro e x1 ⟨rfl, hb1⟩); (have hB1 := bidd hb1); (have hS1 := KX.out _ hB1)))
  have B1 := hid hB1
  obtain ⟨⟨e12, e13, e14, e15⟩, ⟨e22, e23⟩, b0, b1, b2, b3⟩ := id hS1
  clear hb1 hB1 hS1
  go_wp2_with fail
  with_reducible refine (RL.out _).mono ?_
  rintro e x2 ⟨rfl, hb2⟩
  have B2 := hid (tB B1.out hb2)
  clear e12 e13 e14 e15 e22 e23 b0 b1 b2 b3 hb2
  obtain ⟨⟨e12, e13, e14, e15⟩, ⟨e22, e23⟩, b0, b1, b2, b3⟩ := KX.out _ B2.out
  go_wp2_with fail
  with_reducible refine (CL.out _).mono ?_
  rintro e x3 ⟨rfl, hb3⟩
  have B3 := hid (tB B2.out hb3)
  clear e12 e13 e14 e15 e22 e23 b0 b1 b2 b3 hb3
  obtain ⟨⟨e12, e13, e14, e15⟩, ⟨e22, e23⟩, b0, b1, b2, b3⟩ := KX.out _ B3.out
  have KD3 := hid (KX.out x3.drew B3.out.drew)
  go_upto_region 9 with fail
  go_quiet (fail)
  obtain ⟨x4, hx4⟩ : ∃ q, x3.drewN nq = q := ⟨_, rfl⟩
  have B4 := hid (show Below w0.heap.size w0 x4 by rw [<- hx4]; exact ⟨B3.out.os, B3.out.tape, B3.out.output, B3.out.size, B3.out.block⟩)
  rw [hx4]
  clear hx4 e12 e13 e14 e15 e22 e23 b0 b1 b2 b3 KD3
  obtain ⟨⟨e12, e13, e14, e15⟩, ⟨e22, e23⟩, b0, b1, b2, b3⟩ := KX.out _ B4.out
  have ST := hid (stable8 sb tb cb qb dp 0 l lv none 1 0 x4 (H0.out.below B4.out).sto)
  have hl4 : sb < x4.heap.size := World.block_lt_of_cell? _ _ e22
  go_wp2_with fail
  with_reducible refine ST.out.mono ?_
  rintro e x9 ⟨rfl, rfl⟩
  go_wp2_with fail
  with_reducible refine (BG.out _ B4.out).mono ?_
  rintro e x5 ⟨rfl, n5, lv5, rb, pb, col5, h5, c5⟩
  have C5 := hid ((CStep.below B4.out).trans c5)
  have HX5 := hid ((C5.out.block (lB HX0.out) HB.out).trans HX0.out)
  have HK5 := hid ((HK.out.below B0.out (Nat.le_refl _)).fr C5.out.fr (fun ad e q => q (KA.out ad e)))
  have HV5 := hid (rd8_fr (HV.out.below B0.out (Nat.le_refl _)) C5.out.fr (fun ad e => (VA.out ad e).imp id (fun h q => q h)))
  have KA5 := hid (show ∀ ad, ka = some ad -> col5 ad.block = 0 from fun ad e => by
    have hkn : 0 < kn := by
      have h1 := (recChk_ok HC.out).2.2.2.2.2.2.2.2.2
      have h2 := HK.out.len
      have h3 := HKD.out
      omega
    obtain ⟨g, off, e', hg, _⟩ := HK.out.el 0 hkn
    rw [e] at e'
    cases e'
    rw [C5.out.old _ (Nat.lt_of_lt_of_le hg B0.out.size)]
    exact KA.out _ e)
  have WR := hid (swrite1 h5 r ka va kn kc vn vc HK5.out HV5.out KA5.out HC.out HKD.out HEX.out (Int.le_refl 0) (by have := HL.out; have := HRL.out; simp only [List.length_nil]; rw [HRL.out]; exact HL.out) (by rw [HRL.out]; exact HL2.out) HN.out)
  unfold recV at WR
  rw [HRL.out, List.nil_append] at WR
  clear e12 e13 e14 e15 e22 e23 b0 b1 b2 b3 c5
  have b0 := qB (i := 0) HX5.out
  have b1 := qB (i := 1) HX5.out
  have b2 := qB (i := 2) HX5.out
  have b3 := qB (i := 3) HX5.out
  go_wp2_with fail
  with_reducible refine WR.out.mono ?_
  rintro e x6 ⟨rfl, P6, Q6, R6, sv6, col6, h6, c6⟩
  have FIN := hid (And.intro h6 (CStep.pre B0.out (C5.out.trans c6)))
  clear h6 c6
  go_wp2_with fail
  go_ret
  exact ⟨rfl, _, _, _, _, _, _, _, _, _, FIN.out⟩
end
def CaB (w : World) (xb sb kb : Nat) (g hi se rj : Int) : Prop := w.heap[xb]? = some (.cells #[.pointer (some ⟨sb, 0, none⟩), .pointer (some ⟨kb, 0, none⟩), .int .i64 g, .int .i64 hi, .int .i64 se, .int .i64 rj, .int .u32 0, .int .i32 0, .int .u32 0, .bool false, .int .i64 0] 135 (0, 0))
theorem below_grown {w w' : World} (h : w.grownBy w' none) : Below w.heap.size w w' := ⟨h.os, h.tape, h.output, h.size, fun k hk => h.block k hk (fun e => by cases e)⟩
theorem sk_below {w w' : World} {b : Nat} {c : Nat -> Nat} {n : Nat} (h : S19.Sk .u8 w b c n) (hb : Below w.heap.size w w') : S19.Sk .u8 w' b c n := by
  obtain ⟨h1, h2, h3⟩ := h
  have hl : b < w.heap.size := World.block_lt_of_cell? _ _ h2
  have hc : ∀ i, w'.cell? ⟨b, i, none⟩ = w.cell? ⟨b, i, none⟩ := fun i => hb.cell (p := ⟨b, i, none⟩) hl
  refine ⟨fun i hi => (hc i).trans (h1 i hi), (hc 256).trans h2, fun i => ?_⟩
  rw [<- h3 i]
  simp [World.frozen?, hb.block b hl]
theorem copen0 (T : Nat -> Int) (dp ib mb cap n : Nat) (D : DataW Nat) (S : List (List Int)) (wn : Nat) (l : Lay) (now : Int) (w : World) (hd : Dev w dp ib mb cap n D S wn) (hT : CrcT T w) (hf : formB l = true) (hfit : fitsB l (S.length : Int) = true) (h0 : S[0]? = some (List.replicate 64 0)) (h1 : S[1]? = some (supE (crcF T) 1 (sup0 l)))
    (hS : 74 + l.rg.toNat * l.rs.toNat <= S.length) (hc : candL (crcF T) S l l.rg.toNat = []) (n0 : 0 <= now) (n1 : now <= 549755813888) :
    Calls prog 38 #[.pointer (some ⟨dp, 0, none⟩), .int .i64 now] w fun e w' => ∃ xb sb kb tb cb qb P Q R lv, e = .returned (.tuple #[.pointer (some ⟨xb, 0, none⟩), .int .i64 0]) /\ CaB w' xb sb kb 0 0 0 0 /\ StB w' sb tb cb qb dp 0 l lv none 1 now /\ Ix w' tb cb qb none 0 P Q R /\ S19.Sk .u8 w' kb (fun _ => 0) 0 /\
      w'.ownsRow w.heap.size 68 10 lv 0 [] /\ w.heap.size <= sb /\ (∀ j, ixF P Q R j -> sb < j /\ j < kb) /\ (∀ g, lv.ownBlock = some g -> g < sb) /\ sb < kb /\ kb < xb /\ Below w.heap.size w w' := by
  have OP := hid (open0 T dp ib mb cap n D S wn l now w hd hT hf hfit h0 h1 hS hc n0 n1)
  clear hd hT hf hfit h0 h1 hS hc
  go_enter Tryz.func38, Tryz.ntmps38
  go_wp2_with fail
  with_reducible refine OP.out.mono ?_
  rintro e w1 ⟨sb, tb, cb, qb, P, Q, R, lv, rfl, hst, hix, hlv, hsb, hf1, hf2, hb⟩
  have BW := hid hb
  go_wp2_with fail
  with_reducible refine (S19.new6 _).mono ?_
  rintro e w2 ⟨rfl, hsk, hg⟩
  go_wp2_with fail
  have hb2 := below_grown hg
  have hb3 : Below w1.heap.size w1 (w2.alloc (.cells #[.pointer (some ⟨sb, 0, none⟩), .pointer (some ⟨w1.heap.size, 0, none⟩), .int .i64 0, .int .i64 0, .int .i64 0, .int .i64 0, .int .u32 0, .int .i32 0, .int .u32 0, .bool false, .int .i64 0] 135)) := hb2.alloc hb2.size _
  go_ret2
  refine ⟨w2.heap.size, sb, w1.heap.size, tb, cb, qb, P, Q, R, lv, rfl, nB w2 _, hst.below hb3, hix.fr (S := fun _ => False) (Fr.of_below hb3) (fun _ _ f => f), sk_below hsk ((Below.refl _ _).alloc (Nat.le_refl _) _), own_same hlv (fun g hg => hb3.block g (hlv.lt g hg).2), hsb, fun j hj => ⟨hf1 j hj, hix.lt j hj⟩, hf2, lB hst, World.block_lt_of_cell? _ _ hsk.2.1, tB BW.out hb3⟩
theorem cdown8 (xb sb kb tb cb qb dp ib mb cap n : Nat) (D : DataW Nat) (S : List (List Int)) (wn : Nat) (g hi se rj ev : Int) (l : Lay) (lv : Value) (ob : Option Nat) (nx now : Int) (w : World) (hc : CaB w xb sb kb g hi se rj) (h : StB w sb tb cb qb dp ev l lv ob nx now) (hd : Dev w dp ib mb cap n D S wn) :
    Calls prog 50 #[.pointer (some ⟨xb, 0, none⟩)] w fun e w' => e = .returned (.bool false) /\ w = w' := by
  have c0 := qB (i := 0) hc
  have c9 := qB (i := 9) hc
  have hl := lB hc
  have SC := hid (stsectors8 sb tb cb qb dp ib mb cap n D S wn ev l lv ob nx now w h hd)
  have hl1 := hd.len.1
  have hz : ((S.length : Int) == 0) = false := beq_eq_false_iff_ne.2 (by omega)
  clear hd h hc
  go_enter Tryz.func50, Tryz.ntmps50
  go_wp2_with fail
  with_reducible refine SC.out.mono ?_
  rintro e w1 ⟨rfl, rfl⟩
  go_wp2_with fail
  go_ret
  exact ⟨rfl, rfl⟩
theorem cformat8 (T : Nat -> Int) (dp ib mb cap n : Nat) (D : DataW Nat) (S : List (List Int)) (wr : Nat) (v rs rg : Int) (w : World) (hd : Dev w dp ib mb cap n D S wr) (hl : formB ⟨1, v, rs, rg⟩ = true) (hfit : 74 + rg * rs <= (S.length : Int)) (hT : CrcT T w) (h2 : 2 <= S.length) (hwr : wr + S.length + 1 <= 1000000) (h0 : ∀ j, devF dp ib mb j -> 0 < j) :
    Calls prog 36 #[.pointer (some ⟨dp, 0, none⟩), .int .i64 v, .int .i64 rs, .int .i64 rg] w fun e w' => e = .returned (.int .i64 0) /\ ∃ n', Dev w' dp ib mb cap n' (.map []) (secs0 (crcF T) S.length ⟨1, v, rs, rg⟩) (wr + S.length + 1) /\ Fr (devF dp ib mb) w w' := by
  have FT := hid (format8 T dp ib mb cap n D S wr ⟨1, v, rs, rg⟩ w hd hl hfit hT h2 hwr h0)
  clear hd hT
  go_enter Tryz.func36, Tryz.ntmps36
  go_wp2_with fail
  with_reducible refine FT.out.mono ?_
  rintro e w1 ⟨rfl, n', hd', hf⟩
  have D1 := hid hd'
  have F1 := hid hf
  clear hd' hf
  go_wp2_with fail
  go_ret
  exact ⟨rfl, n', D1.out, F1.out⟩
end Go.Proofs.YtbikkioipamlmaaGreatDoor
