/-
  The contract of the reference's Cut.
-/
import Derived.Test.YtkafffoaaklhiaaRefBytes
namespace Go.Proofs.Ytkafffoaaklhiaa
open Go.RowKit
set_option linter.unusedVariables false
theorem chB_form {t : Lay} {l : List Reg} (h : chB t l = true) : formB t = true := by
  cases hf : formB t with
  | true => rfl
  | false =>
    unfold chB freeQ freeD at h
    rw [if_neg (by rw [hf]; simp)] at h
    cases h
set_option maxRecDepth 100000 in
set_option maxHeartbeats 8000000 in
theorem refcut14 (t : Lay) (a : Option Addr) (n cap : Nat) (l : List Reg) (w : World) (hl : l.length = n) (hn : n < 20) (hv : Vals w a (regC l)) :
    Calls Try.prog 14 #[.agg #[.int .i64 t.id, .int .i64 t.ver, .int .i64 t.rs, .int .i64 t.rg], .slice a n cap] w fun e w' => e = .returned (.int .i64 (cutD t l : Int)) ∧ Below w.heap.size w w' := by
  have OR := Lib.hid (reforder20 a n cap l (w.alloc (.cells #[.int .i64 t.id, .int .i64 t.ver, .int .i64 t.rs, .int .i64 t.rg] 23)) hl hn (hv.below ((Below.refl _ _).alloc (Nat.le_refl _) _) (Nat.le_refl _)))
  have hsl := (sort_all l).2.2
  rw [cutD_all]
  obtain ⟨S, hS⟩ : ∃ S, sortR l = S := ⟨_, rfl⟩
  rw [hS, hl] at hsl
  rw [hS] at OR ⊢
  have SL := Lib.hid hsl
  have CP := Lib.hid (fun W (h : formB t = true) => refcap31 t W h)
  have BY := Lib.hid (fun (a : Option Addr) (n cap : Nat) (S : List Reg) W (h1 : S.length = n) (h2 : n < 20) (h : Vals W a (regC S)) => refbytes30 a n cap S W h1 h2 h)
  have CH := Lib.hid (fun (a : Option Addr) (n cap : Nat) (S : List Reg) W (h1 : S.length = n) (h2 : n < 20) (h : Vals W a (regC S)) => refchoose9 t a n cap S W h1 (by omega) h)
  clear hv hl hS hsl
  go_enter Try.func14, Try.ntmps14
  go_wp2_with fail
  with_reducible refine OR.out.mono ?_
  rintro e w1 ⟨v, rfl, hown, hb⟩
  obtain ⟨a1, cap1, rfl, hvs, hnc, hcm, _⟩ := ownsRow_vals hown
  have hx : w1.heap[w.heap.size]? = some (.cells #[.int .i64 t.id, .int .i64 t.ver, .int .i64 t.rs, .int .i64 t.rg] 23 (0, 0)) := by
    rw [hb.block w.heap.size (by simp)]
    show (w.heap.push _)[w.heap.size]? = _
    simp
  have W1 := Lib.hid (show CutW w w1 w.heap.size t a1 S from ⟨hx, hvs, bel1 hb⟩)
  have C0 := Lib.hid (show cutF t S = 0 + cutF t (S.drop 0) from by rw [List.drop_zero]; omega)
  clear hown hb hx OR hvs
  go_wp2_with fail
  go_loopg [6, 7, 8] n (fun gk kv _ _ wr => ∃ k : Nat, kv = .int .i64 k ∧ k ≤ n ∧ gk = n - k ∧ CutW w wr w.heap.size t a1 S ∧ Hid (cutF t S = k + cutF t (S.drop k)))
  case atStart => exact ⟨0, rfl, Nat.zero_le _, rfl, W1.out, C0⟩
  case round =>
    obtain ⟨k, rfl, hk, hgk, hw, hcut⟩ := hrel
    have GK := Lib.hid hgk
    have HW := Lib.hid hw
    clear hgk hw W1 C0
    by_cases hlt : k < n
    · obtain ⟨r, hr⟩ : ∃ r, S[k]? = some r := ⟨_, List.getElem?_eq_getElem (by rw [SL.out]; exact hlt)⟩
      obtain ⟨b, off, rfl, hb, _⟩ := HW.out.reg k r hr
      have hkI : (k : Int) < n := by omega
      have hki : (k : Int) ≤ n := by omega
      have hkc : (n : Int) ≤ cap1 := by omega
      have hkc2 : (cap1 : Int) ≤ 9223372036854775807 := by unfold maxLen at hcm; omega
      have hdrop : S.drop k = r :: S.drop (k + 1) := by
        obtain ⟨h0, e⟩ := List.getElem?_eq_some_iff.1 hr
        rw [← e, List.getElem_cons_drop]
      have hs1 := sumC_rng (S.drop k)
      have hs2 : (S.drop k).length ≤ 20 := by rw [List.length_drop, SL.out]; omega
      have CFS := Lib.hid (show cutF t (S.drop k) = if chB t (S.drop k) = true ∧ sumC (S.drop k) ≤ (t.rg - 1) * capD t then 0 else cutF t (S.drop (k + 1)) + 1 from by rw [hdrop]; rfl)
      have CBF := Lib.hid (fun (h : chB t (S.drop k) = true) => chB_form h)
      have CHK := Lib.hid (fun W (h : Vals W (some ⟨b, off, none⟩) (regC S)) => CH.out (some ⟨b, off + k * 10, none⟩) (n - k) (cap1 - k) (S.drop k) W (by rw [List.length_drop, SL.out]) (by omega) (h.dropR k (by rw [SL.out]; omega)))
      have BYK := Lib.hid (fun W (h : Vals W (some ⟨b, off, none⟩) (regC S)) => BY.out (some ⟨b, off + k * 10, none⟩) (n - k) (cap1 - k) (S.drop k) W (by rw [List.length_drop, SL.out]) (by omega) (h.dropR k (by rw [SL.out]; omega)))
      obtain ⟨s0, hs0⟩ : ∃ s0, sumC (S.drop k) = s0 := ⟨_, rfl⟩
      rw [hs0] at hs1 CFS BYK
      have hsb : 0 ≤ s0 ∧ s0 ≤ 2415460 := by omega
      have x0 := blk_cell (i := 0) HW.out.box; have x1 := blk_cell (i := 1) HW.out.box; have x2 := blk_cell (i := 2) HW.out.box; have x3 := blk_cell (i := 3) HW.out.box
      simp only [List.getElem?_toArray, List.getElem?_cons_zero, List.getElem?_cons_succ] at x0 x1 x2 x3
      have hbx := blk_lt HW.out.box
      have CHW := Lib.hid (fun (x : Ext wr.heap.size wr) => CHK.out x.val (HW.out.vals.below x.bel (Nat.le_refl _)))
      clear hr hs0 hs1 hs2 hdrop
      go_upto_region 5 with fail
      refine wp_region_ext wr.heap.size (by kernel_rfl) (by kernel_rfl) ?_
      have hx := fun (x : Ext wr.heap.size wr) b o h => Ext.cell x b o h
      repeat (go_big_quiet_step (first | (go_at_call 9; with_reducible exact Calls.ext (Nat.le_refl _) (CHW.out _)) | (with_reducible exact rfl)))
      refine wpQuiet_nil ?_
      rintro w4 ⟨⟨w5, hb4⟩, (he : w4 = w5)⟩
      subst he
      have W4 := Lib.hid (HW.out.below hb4)
      clear hx x0 x1 x2 x3 hbx hb4 CHW CHK hb
      have x0 := blk_cell (i := 0) W4.out.box; have x1 := blk_cell (i := 1) W4.out.box; have x2 := blk_cell (i := 2) W4.out.box; have x3 := blk_cell (i := 3) W4.out.box
      simp only [List.getElem?_toArray, List.getElem?_cons_zero, List.getElem?_cons_succ] at x0 x1 x2 x3
      have hbx := blk_lt W4.out.box
      obtain ⟨cb, hcb⟩ : ∃ cb, chB t (S.drop k) = cb := ⟨_, rfl⟩
      rw [hcb] at CFS CBF ⊢
      clear hcb
      have BYW := Lib.hid (fun (x : Ext w4.heap.size w4) => BYK.out x.val (W4.out.vals.below x.bel (Nat.le_refl _)))
      cases cb with
      | false =>
        have CUT2 := Lib.hid (show cutF t S = (k + 1) + cutF t (S.drop (k + 1)) from by rw [hcut.out, CFS.out, if_neg (by simp)]; omega)
        go_upto_region 6 with fail
        refine wp_region_ext w4.heap.size (by kernel_rfl) (by kernel_rfl) ?_
        have hx := fun (x : Ext w4.heap.size w4) b o h => Ext.cell x b o h
        repeat (go_big_quiet_step (first | (with_reducible exact rfl)))
        refine wpQuiet_nil ?_
        rintro w6 ⟨⟨w7, hb6⟩, (he : w6 = w7)⟩
        subst he
        have W6 := Lib.hid (W4.out.below hb6)
        clear hx x0 x1 x2 x3 hbx hb6
        go_wp2_with fail
        go_roundg (n - (k + 1))
        case measure => have := GK.out; omega
        case rel => exact ⟨k + 1, by go_num, by omega, rfl, W6.out, CUT2⟩
      | true =>
        have hf := CBF.out rfl
        obtain ⟨ct, hct⟩ : ∃ ct, capD t = ct := ⟨_, rfl⟩
        have ctr := capD_rng t
        obtain ⟨_, _, _, _, rg4, rg16⟩ := formB_rng hf
        have CPT := Lib.hid (fun W => CP.out W hf)
        rw [hct] at ctr CFS CPT
        have hprod : 0 ≤ (t.rg - 1) * ct ∧ (t.rg - 1) * ct ≤ 1811595 := by
          have e1 := Int.mul_le_mul (show t.rg - 1 ≤ 15 by omega) ctr.2 ctr.1 (by omega)
          have e2 := Int.mul_nonneg (show 0 ≤ t.rg - 1 by omega) ctr.1
          omega
        have hwrap : wrap64 ((t.rg - 1) * ct) = (t.rg - 1) * ct := IntWalk.wrap64_in _ ⟨by omega, by omega⟩
        clear hct ctr hf CBF
        by_cases hgo : s0 ≤ (t.rg - 1) * ct
        · have CE := Lib.hid (show cutF t S = k from by rw [hcut.out, CFS.out, if_pos ⟨rfl, hgo⟩]; rfl)
          have hdec : decide (s0 ≤ (t.rg - 1) * ct) = true := decide_eq_true hgo
          go_upto_region 6 with fail
          refine wp_region_ext w4.heap.size (by kernel_rfl) (by kernel_rfl) ?_
          have hx := fun (x : Ext w4.heap.size w4) b o h => Ext.cell x b o h
          repeat (go_big_quiet_step (first | (go_at_call 30; with_reducible exact Calls.ext (Nat.le_refl _) (BYW.out _)) | (go_at_call 31; with_reducible exact Calls.ext (Nat.le_refl _) (CPT.out _)) | (with_reducible exact rfl)))
          refine wpQuiet_nil ?_
          rintro w6 ⟨⟨w7, hb6⟩, (he : w6 = w7)⟩
          subst he
          have W6 := Lib.hid (W4.out.below hb6)
          clear hx x0 x1 x2 x3 hbx hb6
          try rw [hdec]
          go_wp2_with fail
          go_ret
          exact ⟨by rw [CE.out]; rfl, W6.out.bel⟩
        · have CUT2 := Lib.hid (show cutF t S = (k + 1) + cutF t (S.drop (k + 1)) from by rw [hcut.out, CFS.out, if_neg (fun h => hgo h.2)]; omega)
          have hdec : decide (s0 ≤ (t.rg - 1) * ct) = false := decide_eq_false hgo
          go_upto_region 6 with fail
          refine wp_region_ext w4.heap.size (by kernel_rfl) (by kernel_rfl) ?_
          have hx := fun (x : Ext w4.heap.size w4) b o h => Ext.cell x b o h
          repeat (go_big_quiet_step (first | (go_at_call 30; with_reducible exact Calls.ext (Nat.le_refl _) (BYW.out _)) | (go_at_call 31; with_reducible exact Calls.ext (Nat.le_refl _) (CPT.out _)) | (with_reducible exact rfl)))
          refine wpQuiet_nil ?_
          rintro w6 ⟨⟨w7, hb6⟩, (he : w6 = w7)⟩
          subst he
          have W6 := Lib.hid (W4.out.below hb6)
          clear hx x0 x1 x2 x3 hbx hb6
          try rw [hdec]
          go_wp2_with fail
          go_roundg (n - (k + 1))
          case measure => have := GK.out; omega
          case rel => exact ⟨k + 1, by go_num, by omega, rfl, W6.out, CUT2⟩
    · have hki : k = n := by omega
      subst hki
      have CE := Lib.hid (show cutF t S = k from by
        rw [hcut.out, List.drop_of_length_le (by rw [SL.out]; exact Nat.le_refl _)]; rfl)
      clear hlt GK
      go_wp2_with fail
      go_ret
      exact ⟨by rw [CE.out]; rfl, HW.out.bel⟩
end Go.Proofs.Ytkafffoaaklhiaa
