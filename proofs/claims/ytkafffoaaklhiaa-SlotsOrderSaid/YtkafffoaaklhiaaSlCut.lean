/-
  The contract of slots.Cut.
-/
import Derived.Test.YtkafffoaaklhiaaSlChoose
namespace Go.Proofs.Ytkafffoaaklhiaa
open Go.RowKit
set_option linter.unusedVariables false
def sumC : List Reg → Int
  | [] => 0
  | r :: l => capD r.l + sumC l
theorem capD_rng (l : Lay) : 0 ≤ capD l ∧ capD l ≤ 120773 := by
  unfold capD
  split
  · rename_i h
    have := formB_rng h
    constructor <;> omega
  · omega
theorem sumC_rng (l : List Reg) : 0 ≤ sumC l ∧ sumC l ≤ 120773 * l.length := by
  induction l with
  | nil => simp [sumC]
  | cons r l ih =>
    have := capD_rng r.l
    simp only [sumC, List.length_cons]
    omega
theorem sumC_app (l : List Reg) (r : Reg) : sumC (l ++ [r]) = sumC l + capD r.l := by
  induction l with
  | nil => simp [sumC]
  | cons x l ih => simp only [List.cons_append, sumC, ih]; omega
/-- how many of the regions (from the oldest on) have to go -/
def cutF (t : Lay) : List Reg → Nat
  | [] => 0
  | r :: S => if chB t (r :: S) = true ∧ sumC (r :: S) ≤ (t.rg - 1) * capD t then 0 else cutF t S + 1
def cutD (t : Lay) (l : List Reg) : Nat := if formB t = true then cutF t (sortR l) else l.length
theorem cutF_le (t : Lay) (S : List Reg) : cutF t S ≤ S.length := by
  induction S with
  | nil => simp [cutF]
  | cons r S ih => unfold cutF; split <;> simp; omega
set_option maxRecDepth 100000 in
set_option maxHeartbeats 4000000 in
theorem cut13_no (t : Lay) (a : Option Addr) (n cap : Nat) (l : List Reg) (w : World) (hl : l.length = n) (hn : n < 20) (hv : Vals w a (regC l)) (h0 : a = none → n = 0 ∧ cap = 0) (hf : formB t = false) :
    Calls Try.prog 13 #[.agg #[.int .i64 t.id, .int .i64 t.ver, .int .i64 t.rs, .int .i64 t.rg], .slice a n cap] w fun e w' => e = .returned (.int .i64 (cutD t l : Int)) ∧ Below w.heap.size w w' := by
  have OR := Lib.hid (order18 a n cap l (w.alloc (.cells #[.int .i64 t.id, .int .i64 t.ver, .int .i64 t.rs, .int .i64 t.rg] 23)) hl hn (hv.below ((Below.refl _ _).alloc (Nat.le_refl _) _) (Nat.le_refl _)) h0)
  have CF := fun W => form20 t.id t.ver t.rs t.rg W
  rw [show (⟨t.id, t.ver, t.rs, t.rg⟩ : Lay) = t from rfl, hf] at CF
  have CFH := Lib.hid CF
  have CD := Lib.hid (show cutD t l = n from by unfold cutD; rw [hf]; simpa using hl)
  clear CF hv h0 hl
  rw [CD.out]
  go_enter Try.func13, Try.ntmps13
  go_wp2_with fail
  with_reducible refine OR.out.mono ?_
  rintro e w1 ⟨v, rfl, hown, hb⟩
  obtain ⟨a1, cap1, rfl, _⟩ := ownsRow_vals hown
  have B1 := Lib.hid (show Below w.heap.size w w1 from bel1 hb)
  have hx : w1.heap[w.heap.size]? = some (.cells #[.int .i64 t.id, .int .i64 t.ver, .int .i64 t.rs, .int .i64 t.rg] 23 (0, 0)) := by
    rw [hb.block w.heap.size (by simp)]
    show (w.heap.push _)[w.heap.size]? = _
    simp
  have x0 := blk_cell (i := 0) hx; have x1 := blk_cell (i := 1) hx; have x2 := blk_cell (i := 2) hx; have x3 := blk_cell (i := 3) hx
  simp only [List.getElem?_toArray, List.getElem?_cons_zero, List.getElem?_cons_succ] at x0 x1 x2 x3
  clear hown hb hx OR
  go_wp2_with fail
  with_reducible refine (CFH.out _).mono ?_
  rintro e w2 ⟨rfl, hb2⟩
  have B2 := Lib.hid (bel_trans B1.out hb2)
  clear hb2
  go_wp2_with fail
  go_ret
  exact ⟨rfl, B2.out⟩
/-- what Cut keeps: the box of the target, the sorted regions -/
structure CutW (w wr : World) (tb : Nat) (t : Lay) (a : Option Addr) (S : List Reg) : Prop where
  box : wr.heap[tb]? = some (.cells #[.int .i64 t.id, .int .i64 t.ver, .int .i64 t.rs, .int .i64 t.rg] 23 (0, 0))
  vals : Vals wr a (regC S)
  bel : Below w.heap.size w wr
theorem CutW.below {w wr w' : World} {tb : Nat} {t : Lay} {a : Option Addr} {S : List Reg} (h : CutW w wr tb t a S) (hb : Below wr.heap.size wr w') : CutW w w' tb t a S :=
  ⟨(hb.block tb (blk_lt h.box)).trans h.box, h.vals.below hb (Nat.le_refl _), bel_trans h.bel hb⟩
/-- the cells of the region at k -/
theorem CutW.reg {w wr : World} {tb : Nat} {t : Lay} {a : Option Addr} {S : List Reg} (h : CutW w wr tb t a S) (k : Nat) (r : Reg) (hr : S[k]? = some r) : ∃ b off, a = some ⟨b, off, none⟩ ∧ b < wr.heap.size ∧ RegCells wr b (off + k * 10) r := by
  have hk := (List.getElem?_eq_some_iff.1 hr).1
  obtain ⟨b, off, ha, hb, hc⟩ := h.vals.regs.at k hk
  refine ⟨b, off, ha, hb, ?_⟩
  simp only [hr, Option.getD_some] at hc
  exact hc
theorem Vals.dropR {w : World} {b off : Nat} {S : List Reg} (h : Vals w (some ⟨b, off, none⟩) (regC S)) (k : Nat) (hk : k ≤ S.length) : Vals w (some ⟨b, off + k * 10, none⟩) (regC (S.drop k)) := by
  have := h.drop (k * 10)
  rwa [show (regC S).drop (k * 10) = regC (S.drop k) from by
    have e : regC S = regC (S.take k) ++ regC (S.drop k) := by rw [← regC_app, List.take_append_drop]
    rw [e, List.drop_append_of_le_length (by rw [regC_len, List.length_take]; omega), List.drop_of_length_le (by rw [regC_len, List.length_take]; omega), List.nil_append]] at this
set_option maxRecDepth 100000 in
set_option maxHeartbeats 8000000 in
theorem cut13_yes (t : Lay) (a : Option Addr) (n cap : Nat) (l : List Reg) (w : World) (hl : l.length = n) (hn : n < 20) (hv : Vals w a (regC l)) (h0 : a = none → n = 0 ∧ cap = 0) (hf : formB t = true) :
    Calls Try.prog 13 #[.agg #[.int .i64 t.id, .int .i64 t.ver, .int .i64 t.rs, .int .i64 t.rg], .slice a n cap] w fun e w' => e = .returned (.int .i64 (cutD t l : Int)) ∧ Below w.heap.size w w' := by
  have OR := Lib.hid (order18 a n cap l (w.alloc (.cells #[.int .i64 t.id, .int .i64 t.ver, .int .i64 t.rs, .int .i64 t.rg] 23)) hl hn (hv.below ((Below.refl _ _).alloc (Nat.le_refl _) _) (Nat.le_refl _)) h0)
  have CF := fun W => form20 t.id t.ver t.rs t.rg W
  rw [show (⟨t.id, t.ver, t.rs, t.rg⟩ : Lay) = t from rfl, hf] at CF
  have CFH := Lib.hid CF
  have hsl := (sort_all l).2.2
  obtain ⟨S, hS⟩ : ∃ S, sortR l = S := ⟨_, rfl⟩
  have hcd : cutD t l = cutF t S := by unfold cutD; rw [if_pos hf, hS]
  rw [hS, hl] at hsl
  rw [hS] at OR
  rw [hcd]
  have CT := Lib.hid (capD_rng t)
  have FR := formB_rng hf
  obtain ⟨_, _, _, _, rg4, rg16⟩ := FR
  have SL := Lib.hid hsl
  have CP := Lib.hid (fun (L : Lay) W => capacity14 L.id L.ver L.rs L.rg W)
  have CH := Lib.hid (fun (a : Option Addr) (n cap : Nat) (S : List Reg) W (h1 : S.length = n) (h2 : n < 20) (h : Vals W a (regC S)) => choose8 t a n cap S W h1 (by omega) h)
  clear CF hv h0 hl hS hcd hsl
  go_enter Try.func13, Try.ntmps13
  go_wp2_with fail
  with_reducible refine OR.out.mono ?_
  rintro e w1 ⟨v, rfl, hown, hb⟩
  obtain ⟨a1, cap1, rfl, hvs, hnc, hcm, _⟩ := ownsRow_vals hown
  have hx : w1.heap[w.heap.size]? = some (.cells #[.int .i64 t.id, .int .i64 t.ver, .int .i64 t.rs, .int .i64 t.rg] 23 (0, 0)) := by
    rw [hb.block w.heap.size (by simp)]
    show (w.heap.push _)[w.heap.size]? = _
    simp
  have W1 := Lib.hid (show CutW w w1 w.heap.size t a1 S from ⟨hx, hvs, bel1 hb⟩)
  have x0 := blk_cell (i := 0) hx; have x1 := blk_cell (i := 1) hx; have x2 := blk_cell (i := 2) hx; have x3 := blk_cell (i := 3) hx
  simp only [List.getElem?_toArray, List.getElem?_cons_zero, List.getElem?_cons_succ] at x0 x1 x2 x3
  clear hown hb hx OR hvs
  go_wp2_with fail
  with_reducible refine (CFH.out _).mono ?_
  rintro e w2 ⟨rfl, hb2⟩
  have W2 := Lib.hid (W1.out.below hb2)
  clear hb2 W1 x0 x1 x2 x3
  go_wp2_with fail
  go_loopg [6, 8, 22] n (fun gk sv _ iv wr => ∃ i : Nat, iv = .int .i64 i ∧ i ≤ n ∧ gk = n - i ∧ sv = .int .i64 (sumC (S.take i)) ∧ CutW w wr w.heap.size t a1 S)
  case atStart => exact ⟨0, rfl, Nat.zero_le _, rfl, rfl, W2.out⟩
  case round =>
    obtain ⟨i, rfl, hi, hgk, rfl, hw⟩ := hrel
    have GK := Lib.hid hgk
    have HW := Lib.hid hw
    clear hgk hw W2
    by_cases hlt : i < n
    · obtain ⟨r, hr⟩ : ∃ r, S[i]? = some r := ⟨_, List.getElem?_eq_getElem (by rw [SL.out]; exact hlt)⟩
      obtain ⟨b, off, rfl, hb, g0, g1, g2, g3, g4, g5, g6, g7, g8, g9⟩ := HW.out.reg i r hr
      have hiI : (i : Int) < n := by omega
      have hs1 := sumC_rng (S.take i)
      have hs2 : (S.take i).length ≤ 20 := by rw [List.length_take]; omega
      have hs3 : sumC (S.take (i + 1)) = sumC (S.take i) + capD r.l := by rw [List.take_add_one, hr]; exact sumC_app _ _
      have hcr := capD_rng r.l
      obtain ⟨s0, hs0⟩ : ∃ s0, sumC (S.take i) = s0 := ⟨_, rfl⟩
      rw [hs0] at hs1 hs3 ⊢
      have S3 := Lib.hid hs3
      have CPR := Lib.hid (fun W => CP.out r.l W)
      rw [show (⟨r.l.id, r.l.ver, r.l.rs, r.l.rg⟩ : Lay) = r.l from rfl] at CPR
      obtain ⟨cr, hcre⟩ : ∃ cr, capD r.l = cr := ⟨_, rfl⟩
      rw [hcre] at hcr S3 CPR
      have hsb : 0 ≤ s0 ∧ s0 ≤ 2415460 := by omega
      clear hr hs0 hs3 hs1 hs2 hcre
      go_wp2_with fail
      with_reducible refine (CPR.out _).mono ?_
      rintro e w3 ⟨rfl, hb3⟩
      have W3 := Lib.hid ((HW.out.below ((Below.refl _ _).alloc (Nat.le_refl _) _)).below hb3)
      clear hb3 g0 g1 g2 g3 g4 g5 g6 g7 g8 g9 hb
      go_wp2_with fail
      go_roundg (n - (i + 1))
      case measure => have := GK.out; omega
      case rel => exact ⟨i + 1, by go_num, by omega, rfl, by rw [S3.out], W3.out⟩
    · have hin : i = n := by omega
      subst hin
      rw [List.take_of_length_le (by rw [SL.out]; exact Nat.le_refl _)]
      have C0 := Lib.hid (show cutF t S = 0 + cutF t (S.drop 0) from by rw [List.drop_zero]; omega)
      clear GK hlt
      go_wp2_with fail
      go_loopg [6, 9, 10, 11, 12, 34] i (fun gk sv _ _ _ _ kv wr => ∃ k : Nat, kv = .int .i64 k ∧ k ≤ i ∧ gk = i - k ∧ sv = .int .i64 (sumC (S.drop k)) ∧ CutW w wr w.heap.size t a1 S ∧ Hid (cutF t S = k + cutF t (S.drop k)))
      case atStart => exact ⟨0, rfl, Nat.zero_le _, rfl, rfl, HW.out, C0⟩
      case round =>
        obtain ⟨k, rfl, hk, hgk, rfl, hw, hcut⟩ := hrel
        have GK := Lib.hid hgk
        have HW2 := Lib.hid hw
        clear hgk hw HW C0
        by_cases hlt : k < i
        · obtain ⟨r, hr⟩ : ∃ r, S[k]? = some r := ⟨_, List.getElem?_eq_getElem (by rw [SL.out]; exact hlt)⟩
          obtain ⟨b, off, rfl, hb, g0, g1, g2, g3, g4, g5, g6, g7, g8, g9⟩ := HW2.out.reg k r hr
          have hkI : (k : Int) < i := by omega
          have hki : (k : Int) ≤ i := by omega
          have hkc : (i : Int) ≤ cap1 := by omega
          have hkc2 : (cap1 : Int) ≤ 9223372036854775807 := by unfold maxLen at hcm; omega
          have hdrop : S.drop k = r :: S.drop (k + 1) := by
            obtain ⟨h0, e⟩ := List.getElem?_eq_some_iff.1 hr
            rw [← e, List.getElem_cons_drop]
          have hs1 := sumC_rng (S.drop k)
          have hs2 : (S.drop k).length ≤ 20 := by rw [List.length_drop, SL.out]; omega
          have hs3 : sumC (S.drop k) = capD r.l + sumC (S.drop (k + 1)) := by rw [hdrop]; rfl
          have hcr := capD_rng r.l
          have CFS := Lib.hid (show cutF t (S.drop k) = if chB t (S.drop k) = true ∧ sumC (S.drop k) ≤ (t.rg - 1) * capD t then 0 else cutF t (S.drop (k + 1)) + 1 from by rw [hdrop]; rfl)
          obtain ⟨s0, hs0⟩ : ∃ s0, sumC (S.drop k) = s0 := ⟨_, rfl⟩
          rw [hs0] at hs1 hs3 CFS ⊢
          have S3 := Lib.hid hs3
          have CPR := Lib.hid (fun W => CP.out r.l W)
          rw [show (⟨r.l.id, r.l.ver, r.l.rs, r.l.rg⟩ : Lay) = r.l from rfl] at CPR
          obtain ⟨cr, hcre⟩ : ∃ cr, capD r.l = cr := ⟨_, rfl⟩
          rw [hcre] at hcr S3 CPR
          have hsb : 0 ≤ s0 ∧ s0 ≤ 2415460 := by omega
          have CHK := Lib.hid (fun W (h : Vals W (some ⟨b, off, none⟩) (regC S)) => CH.out (some ⟨b, off + k * 10, none⟩) (i - k) (cap1 - k) (S.drop k) W (by rw [List.length_drop, SL.out]) (by omega) (h.dropR k (by rw [SL.out]; omega)))
          clear hr hs0 hs3 hs1 hs2 hcre hdrop
          go_upto_region 13 with fail
          obtain ⟨w3, hw3⟩ : ∃ w3, wr.alloc (.cells #[.int .i64 r.ver, .int .i64 r.slot, .int .i64 r.lay, .int .i64 r.seq, .int .i64 r.tail, .int .i64 r.now, .int .i64 r.l.id, .int .i64 r.l.ver, .int .i64 r.l.rs, .int .i64 r.l.rg] 36) = w3 := ⟨_, rfl⟩
          have W3 := Lib.hid (show CutW w w3 w.heap.size t (some ⟨b, off, none⟩) S from by rw [← hw3]; exact HW2.out.below ((Below.refl _ _).alloc (Nat.le_refl _) _))
          have hr3 : w3.heap[wr.heap.size]? = some (.cells #[.int .i64 r.ver, .int .i64 r.slot, .int .i64 r.lay, .int .i64 r.seq, .int .i64 r.tail, .int .i64 r.now, .int .i64 r.l.id, .int .i64 r.l.ver, .int .i64 r.l.rs, .int .i64 r.l.rg] 36 (0, 0)) := by
            rw [← hw3]
            show (wr.heap.push _)[wr.heap.size]? = _
            simp
          have R3 := Lib.hid hr3
          rw [hw3]
          clear hw3 hr3 g0 g1 g2 g3 g4 g5 g6 g7 g8 g9 hb
          have x0 := blk_cell (i := 0) W3.out.box; have x1 := blk_cell (i := 1) W3.out.box; have x2 := blk_cell (i := 2) W3.out.box; have x3 := blk_cell (i := 3) W3.out.box
          simp only [List.getElem?_toArray, List.getElem?_cons_zero, List.getElem?_cons_succ] at x0 x1 x2 x3
          have hbx := blk_lt W3.out.box
          have CHW := Lib.hid (fun (x : Ext w3.heap.size w3) => CHK.out x.val (W3.out.vals.below x.bel (Nat.le_refl _)))
          refine wp_region_ext w3.heap.size (by kernel_rfl) (by kernel_rfl) ?_
          have hx := fun (x : Ext w3.heap.size w3) b o h => Ext.cell x b o h
          repeat (go_big_quiet_step (first | (go_at_call 8; with_reducible exact Calls.ext (Nat.le_refl _) (CHW.out _)) | (with_reducible exact rfl)))
          refine wpQuiet_nil ?_
          rintro w4 ⟨⟨w5, hb4⟩, (he : w4 = w5)⟩
          subst he
          have W4 := Lib.hid (W3.out.below hb4)
          have R4 := Lib.hid ((hb4.block _ (blk_lt R3.out)).trans R3.out)
          clear hx x0 x1 x2 x3 hbx hb4 CHW CHK
          have x0 := blk_cell (i := 0) W4.out.box; have x1 := blk_cell (i := 1) W4.out.box; have x2 := blk_cell (i := 2) W4.out.box; have x3 := blk_cell (i := 3) W4.out.box
          simp only [List.getElem?_toArray, List.getElem?_cons_zero, List.getElem?_cons_succ] at x0 x1 x2 x3
          have hbx := blk_lt W4.out.box
          obtain ⟨cb, hcb⟩ : ∃ cb, chB t (S.drop k) = cb := ⟨_, rfl⟩
          rw [hcb] at CFS ⊢
          clear hcb
          obtain ⟨ct, hct⟩ : ∃ ct, capD t = ct := ⟨_, rfl⟩
          have ctr := CT.out
          rw [hct] at ctr CFS
          have CPT := Lib.hid (fun W => CP.out t W)
          rw [show (⟨t.id, t.ver, t.rs, t.rg⟩ : Lay) = t from rfl, hct] at CPT
          have hprod : 0 ≤ (t.rg - 1) * ct ∧ (t.rg - 1) * ct ≤ 1811595 := by
            have e1 := Int.mul_le_mul (show t.rg - 1 ≤ 15 by omega) ctr.2 ctr.1 (by omega)
            have e2 := Int.mul_nonneg (show 0 ≤ t.rg - 1 by omega) ctr.1
            omega
          have hwrap : wrap64 ((t.rg - 1) * ct) = (t.rg - 1) * ct := IntWalk.wrap64_in _ ⟨by omega, by omega⟩
          clear hct ctr
          by_cases hgo : cb = true ∧ s0 ≤ (t.rg - 1) * ct
          · obtain ⟨hgo1, hgo2⟩ := hgo
            subst hgo1
            have CE := Lib.hid (show cutF t S = k from by rw [hcut.out, CFS.out, if_pos ⟨rfl, hgo2⟩]; rfl)
            have hdec : decide (s0 ≤ (t.rg - 1) * ct) = true := decide_eq_true hgo2
            go_upto_region 14 with fail
            refine wp_region_ext w4.heap.size (by kernel_rfl) (by kernel_rfl) ?_
            have hx := fun (x : Ext w4.heap.size w4) b o h => Ext.cell x b o h
            repeat (go_big_quiet_step (first | (go_at_call 29; with_reducible exact Calls.ext (Nat.le_refl _) (CPT.out _)) | (with_reducible exact rfl)))
            refine wpQuiet_nil ?_
            rintro w6 ⟨⟨w7, hb6⟩, (he : w6 = w7)⟩
            subst he
            have W6 := Lib.hid (W4.out.below hb6)
            have R6 := (hb6.block _ (blk_lt R4.out)).trans R4.out
            clear hx x0 x1 x2 x3 hbx hb6
            try rw [hdec]
            go_wp2_with fail
            go_ret
            exact ⟨by rw [CE.out]; rfl, W6.out.bel⟩
          · have CFS2 := Lib.hid (show cutF t (S.drop k) = cutF t (S.drop (k + 1)) + 1 from by rw [CFS.out, if_neg hgo])
            have CUT2 := Lib.hid (show cutF t S = (k + 1) + cutF t (S.drop (k + 1)) from by rw [hcut.out, CFS2.out]; omega)
            cases cb with
            | true =>
              have hgo2 : ¬ s0 ≤ (t.rg - 1) * ct := fun h => hgo ⟨rfl, h⟩
              have hdec : decide (s0 ≤ (t.rg - 1) * ct) = false := decide_eq_false hgo2
              clear hgo hgo2
              go_upto_region 14 with fail
              refine wp_region_ext w4.heap.size (by kernel_rfl) (by kernel_rfl) ?_
              have hx := fun (x : Ext w4.heap.size w4) b o h => Ext.cell x b o h
              repeat (go_big_quiet_step (first | (go_at_call 29; with_reducible exact Calls.ext (Nat.le_refl _) (CPT.out _)) | (with_reducible exact rfl)))
              refine wpQuiet_nil ?_
              rintro w6 ⟨⟨w7, hb6⟩, (he : w6 = w7)⟩
              subst he
              have W6 := Lib.hid (W4.out.below hb6)
              have R6 := (hb6.block _ (blk_lt R4.out)).trans R4.out
              clear hx x0 x1 x2 x3 hbx hb6
              try rw [hdec]
              have y6 := blk_cell (i := 6) R6; have y7 := blk_cell (i := 7) R6; have y8 := blk_cell (i := 8) R6; have y9 := blk_cell (i := 9) R6
              simp only [List.getElem?_toArray, List.getElem?_cons_zero, List.getElem?_cons_succ] at y6 y7 y8 y9
              clear R6
              go_wp2_with fail
              with_reducible refine (CPR.out _).mono ?_
              rintro e w8 ⟨rfl, hb8⟩
              have W8 := Lib.hid (W6.out.below hb8)
              clear hb8 y6 y7 y8 y9
              go_wp2_with fail
              go_roundg (i - (k + 1))
              case measure => have := GK.out; omega
              case rel => exact ⟨k + 1, by go_num, by omega, rfl, by rw [S3.out]; congr 1; omega, W8.out, CUT2⟩
            | false =>
              clear hgo
              go_upto_region 14 with fail
              refine wp_region_ext w4.heap.size (by kernel_rfl) (by kernel_rfl) ?_
              have hx := fun (x : Ext w4.heap.size w4) b o h => Ext.cell x b o h
              repeat (go_big_quiet_step (first | (go_at_call 29; with_reducible exact Calls.ext (Nat.le_refl _) (CPT.out _)) | (with_reducible exact rfl)))
              refine wpQuiet_nil ?_
              rintro w6 ⟨⟨w7, hb6⟩, (he : w6 = w7)⟩
              subst he
              have W6 := Lib.hid (W4.out.below hb6)
              have R6 := (hb6.block _ (blk_lt R4.out)).trans R4.out
              clear hx x0 x1 x2 x3 hbx hb6
              have y6 := blk_cell (i := 6) R6; have y7 := blk_cell (i := 7) R6; have y8 := blk_cell (i := 8) R6; have y9 := blk_cell (i := 9) R6
              simp only [List.getElem?_toArray, List.getElem?_cons_zero, List.getElem?_cons_succ] at y6 y7 y8 y9
              clear R6
              go_wp2_with fail
              with_reducible refine (CPR.out _).mono ?_
              rintro e w8 ⟨rfl, hb8⟩
              have W8 := Lib.hid (W6.out.below hb8)
              clear hb8 y6 y7 y8 y9
              go_wp2_with fail
              go_roundg (i - (k + 1))
              case measure => have := GK.out; omega
              case rel => exact ⟨k + 1, by go_num, by omega, rfl, by rw [S3.out]; congr 1; omega, W8.out, CUT2⟩
        · have hki : k = i := by omega
          subst hki
          have CE := Lib.hid (show cutF t S = k from by
            rw [hcut.out, List.drop_of_length_le (by rw [SL.out]; exact Nat.le_refl _)]; rfl)
          clear hlt GK
          go_wp2_with fail
          go_ret
          exact ⟨by rw [CE.out]; rfl, HW2.out.bel⟩
theorem cut13 (t : Lay) (a : Option Addr) (n cap : Nat) (l : List Reg) (w : World) (hl : l.length = n) (hn : n < 20) (hv : Vals w a (regC l)) (h0 : a = none → n = 0 ∧ cap = 0) :
    Calls Try.prog 13 #[.agg #[.int .i64 t.id, .int .i64 t.ver, .int .i64 t.rs, .int .i64 t.rg], .slice a n cap] w fun e w' => e = .returned (.int .i64 (cutD t l : Int)) ∧ Below w.heap.size w w' := by
  cases hf : formB t with
  | false => exact cut13_no t a n cap l w hl hn hv h0 hf
  | true => exact cut13_yes t a n cap l w hl hn hv h0 hf
end Go.Proofs.Ytkafffoaaklhiaa
