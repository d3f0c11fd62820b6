/-
  The walk of SlotsShrink.
-/
import Derived.Test.YtkafffoaaklhiaaSlBuild
import Derived.Deep.AppendLies
namespace Go.Proofs.Ytkafffoaaklhiaa
open Go.RowKit Go.Maps Go.ChangeShapes Go.WideShapes Go.ChangeAt
set_option linter.unusedVariables false
set_option maxRecDepth 100000 in
set_option maxHeartbeats 16000000 in
theorem shrinklaw (id ver rs : Int) (g : Nat) (a : Option Addr) (len cap : Nat) (zs : List Int) (more : Int) (w : World) (hid : (Lit.int .i64 id).wf = true) (hf : formB ⟨id, ver, rs, (g : Int)⟩ = true) (hl : zs.length = len) (hlm : len ≤ 9223372036854775807) (he : Elems .i64 w a len zs) (hz : ∀ i, i < len → (Lit.int .i64 (zs[i]?.getD 0)).wf = true) :
    Calls Try.prog 5 #[.agg #[.int .i64 id, .int .i64 ver, .int .i64 rs, .int .i64 (g : Int)], .slice a len cap, .int .i64 more] w fun e w' => e = .returned (.bool true) ∧ Below w.heap.size w w' := by
  obtain ⟨i0, hi, hz0, hz1, hz2⟩ := info_parts reginfo
  have I1 := Lib.hid hi; have I2 := Lib.hid hz0; have I3 := Lib.hid hz1; have I4 := Lib.hid hz2
  clear hi hz0 hz1 hz2
  have RF := fun W => refform12 id ver rs (g : Int) W
  rw [hf] at RF
  have RFH := Lib.hid RF
  obtain ⟨_, _, r1, r2, g4, g16⟩ := formB_rng hf
  simp only at r1 r2 g4 g16
  have hg4 : 4 ≤ g := by omega
  have hg16 : g ≤ 16 := by omega
  have hgI0 : ¬ (g : Int) = 0 := by omega
  have hgI1 : (g : Int) ≤ 16 := by omega
  have HF := Lib.hid hf
  have HE := Lib.hid he
  have HZ := Lib.hid hz
  clear RF hf he hz hl r1 r2 g4 g16
  go_enter Try.func5, Try.ntmps5
  go_wp2_with fail
  with_reducible refine (RFH.out _).mono ?_
  rintro e w1 ⟨rfl, hb1⟩
  have hx : w1.heap[w.heap.size]? = some (.cells #[.int .i64 id, .int .i64 ver, .int .i64 rs, .int .i64 (g : Int)] 23 (0, 0)) := by
    rw [hb1.block w.heap.size (by simp)]
    show (w.heap.push _)[w.heap.size]? = _
    simp
  have hs1 := hb1.size
  simp at hs1
  have B1 := Lib.hid (show Below w.heap.size w w1 from bel1 hb1)
  obtain ⟨W2, bs0, hm, hown, hbel⟩ := make_bools g hg16 w1
  have G0 := Lib.hid (show GrW w W2 ⟨id, ver, rs, (g : Int)⟩ g w1.heap.size (.slice none 0 0) 0 [] bs0 from
    ⟨(hbel.block _ (by omega)).trans hx, World.ownsRow_nil _ _ _ _, rfl, hown, by simp [Value.ownBlock], by omega, bel_trans B1.out hbel, (fun r hr => by cases hr), by show ((0 : Nat) : Int) ≤ (g : Int) - 1; omega⟩)
  have x3 := blk_cell (i := 3) hx
  simp only [List.getElem?_toArray, List.getElem?_cons_zero, List.getElem?_cons_succ] at x3
  clear hx hb1 hown hbel
  go_wp2_with fail
  clear x3 hm
  go_loopg [7, 9, 10] len (fun gk v iv _ wr => ∃ (i m : Nat) (Lv : List Reg) (bs : List Bool), iv = .int .i64 i ∧ i ≤ len ∧ gk = len - i ∧ GrW w wr ⟨id, ver, rs, (g : Int)⟩ g w1.heap.size v m Lv bs)
  case atStart => exact ⟨0, 0, [], bs0, rfl, Nat.zero_le _, rfl, G0.out⟩
  case round =>
    obtain ⟨i, m, Lv, bs, rfl, hi, hgk, hw⟩ := hrel
    have GK := Lib.hid hgk
    have HW := Lib.hid hw
    have hroom := hw.room
    simp only at hroom
    have x0 := blk_cell (i := 0) hw.box; have x1 := blk_cell (i := 1) hw.box; have x2 := blk_cell (i := 2) hw.box; have x3 := blk_cell (i := 3) hw.box
    simp only [List.getElem?_toArray, List.getElem?_cons_zero, List.getElem?_cons_succ] at x0 x1 x2 x3
    obtain ⟨av, capv, rfl, hvv, hncv, hcmv, _, h0v, _⟩ := ownsRow_vals hw.live
    clear hgk hw G0
    by_cases hgo : i < len ∧ m + 1 < g
    · obtain ⟨hlt, hmg⟩ := hgo
      obtain ⟨x, hx⟩ : ∃ x, zs[i]?.getD 0 = x := ⟨_, rfl⟩
      have hwf := HZ.out i hlt
      obtain ⟨b, off, rfl, hb, hc⟩ := HE.out.below HW.out.bel (Nat.le_refl _) i hlt
      rw [hx] at hc hwf
      have hiI : (i : Int) < len := by omega
      have hmI : (m : Int) < (g : Int) - 1 := by omega
      have ht1 := Int.tmod_lt_of_pos x (show (0 : Int) < (g : Int) by omega)
      have ht0 := Int.lt_tmod_of_pos x (show (0 : Int) < (g : Int) by omega)
      clear hx
      go_wp2_with fail
      go_quiet (fail)
      obtain ⟨kk, hkk⟩ : ∃ kk : Nat, (x.tmod (g : Int) + (g : Int)) % (g : Int) = (kk : Int) := ⟨((x.tmod (g : Int) + (g : Int)) % (g : Int)).toNat, by
        have := Int.emod_nonneg (x.tmod (g : Int) + (g : Int)) hgI0
        omega⟩
      have hkg : (kk : Int) < (g : Int) := by rw [← hkk]; exact Int.emod_lt_of_pos _ (by omega)
      rw [hkk]
      have W3 := Lib.hid (HW.out.below (below_drewN (Below.refl _ _) nq))
      clear hkk hc hb x0 x1 x2 x3 ht0 ht1 hwf hvv HW
      obtain ⟨w3, hw3⟩ : ∃ w3, wr.drewN nq = w3 := ⟨_, rfl⟩
      rw [hw3] at W3 ⊢
      clear hw3
      obtain ⟨sb, hsb⟩ : ∃ sb : Bool, bs[kk]? = some sb := by
        have h1 := W3.out.seen.1
        rw [List.length_map] at h1
        exact ⟨_, List.getElem?_eq_getElem (by omega)⟩
      have hkg' : kk < g := by omega
      have cs : w3.cell? ⟨w1.heap.size, kk, none⟩ = some (.bool sb) := by
        rw [W3.out.seen.cellAt kk (by have := W3.out.seen.1; omega), List.getElem?_map, hsb]; rfl
      have fs := W3.out.seen.frozenAt kk
      have x0 := blk_cell (i := 0) W3.out.box; have x1 := blk_cell (i := 1) W3.out.box; have x2 := blk_cell (i := 2) W3.out.box; have x3 := blk_cell (i := 3) W3.out.box
      simp only [List.getElem?_toArray, List.getElem?_cons_zero, List.getElem?_cons_succ] at x0 x1 x2 x3
      clear hsb
      cases sb with
      | true =>
        go_wp2_with fail
        go_roundg (len - (i + 1))
        case measure => have := GK.out; omega
        case rel => exact ⟨i + 1, m, Lv, bs, by go_num, by omega, rfl, W3.out⟩
      | false =>
        have W4 := Lib.hid (W3.out.store kk)
        go_upto_region 11 with fail
        obtain ⟨w4, hw4⟩ : ∃ w4, w3.setCell ⟨w1.heap.size, kk, none⟩ (.bool true) = w4 := ⟨_, rfl⟩
        rw [hw4] at W4 ⊢
        clear W3 cs fs x0 x1 x2 x3 hw4
        have x0 := blk_cell (i := 0) W4.out.box; have x1 := blk_cell (i := 1) W4.out.box; have x2 := blk_cell (i := 2) W4.out.box; have x3 := blk_cell (i := 3) W4.out.box
        simp only [List.getElem?_toArray, List.getElem?_cons_zero, List.getElem?_cons_succ] at x0 x1 x2 x3
        go_wp2_with (at_builtin; refine Stop.out ?_)
        refine Stop.of ?_
        (with_reducible apply wpList_append_lies (hgd := rfl) (t := 24) (base := w.heap.size + 1) (e := 36) (i := i0) (z := (.agg #[.int .i64 0, .int .i64 0, .int .i64 0, .int .i64 0, .int .i64 0, .int .i64 0, .int .i64 0, .int .i64 0, .int .i64 0, .int .i64 0])) (size := 10) (bytes := 80) (n := m) (xs := regC Lv) (m := 1) (news := regC [⟨0, (kk : Int), 0, (i : Int) + 1, 0, 0, ⟨id, ver, rs, (g : Int)⟩⟩]) (ht := Try.underlying24) (hi := I1.out) (hz := I2.out) (hsize := I3.out) (hby := I4.out) (hzs := rfl) (ad := ⟨w4.heap.size, 0, none⟩) (c := 1) (H := w4.heap.size + 1))
        case ho => exact rfl
        case hs => exact rfl
        case hx => exact rfl
        case hsz => decide
        case hown => exact W4.out.live.alloc _
        case hl => exact rfl
        case hnews => exact World.news_of_block (t := 36) (fr := (0, 0)) (cs := #[.int .i64 0, .int .i64 (kk : Int), .int .i64 0, .int .i64 ((i : Int) + 1), .int .i64 0, .int .i64 0, .int .i64 id, .int .i64 ver, .int .i64 rs, .int .i64 (g : Int)]) (heap_alloc_new w4 _)
        case h1 => exact regC_one _
        case hm => decide
        case h63 => exact Nat.le_trans (show m + 1 ≤ 20 by omega) (by decide)
        case hbytes => omega
        case hbase => exact grow_base W4.out _
        case hH => simp
        case h =>
          intro g' cap' w5 hown5 hgrow5 hat5 hlt5
          rw [← regC_app] at hown5
          have W5 := Lib.hid (grow_app W4.out hown5 hgrow5 hat5 (by omega) hkg hmI)
          clear hown5 hgrow5 hat5 hlt5 x0 x1 x2 x3
          go_wp2_with fail
          go_roundg (len - (i + 1))
          case measure => have := GK.out; omega
          case rel => exact ⟨i + 1, m + 1, _, bs.set kk true, by go_num, by omega, rfl, W5.out⟩
    · have hid1 : 1 ≤ id ∧ id ≤ 4294967295 := by obtain ⟨h1, h2, _⟩ := formB_rng HF.out; exact ⟨h1, h2⟩
      have hwr := blk_lt HW.out.box
      have hg3 : ¬ (g : Int) - 3 = 0 := by omega
      have hq1 := Int.tmod_lt_of_pos more (show (0 : Int) < (g : Int) - 3 by omega)
      have hq0 := Int.lt_tmod_of_pos more (show (0 : Int) < (g : Int) - 3 by omega)
      have hex : (len ≤ i) ∨ (i < len ∧ ¬ (m : Int) < (g : Int) - 1) := by omega
      rcases hex with hex | ⟨hex, hex2⟩
      all_goals
        clear hgo
        go_upto_region 13 with fail
        go_region
        obtain ⟨g2, hg2⟩ : ∃ g2 : Int, wrap64 (4 + (more.tmod ((g : Int) - 3) + (g : Int) - 3) % ((g : Int) - 3)) = g2 := ⟨_, rfl⟩
        rw [hg2]
        have hgg : 4 ≤ g2 ∧ g2 ≤ (g : Int) := by
          have e1 := Int.emod_nonneg (more.tmod ((g : Int) - 3) + (g : Int) - 3) hg3
          have e2 := Int.emod_lt_of_pos (more.tmod ((g : Int) - 3) + (g : Int) - 3) (show (0 : Int) < (g : Int) - 3 by omega)
          rw [IntWalk.wrap64_in _ ⟨by omega, by omega⟩] at hg2
          omega
        obtain ⟨id2, hid2⟩ : ∃ id2 : Int, 1 + id % 9 = id2 := ⟨_, rfl⟩
        rw [hid2]
        have hft : formB ⟨id2, ver, rs, g2⟩ = true := form_shrink HF.out (by omega) (by omega) hgg.1 (by omega)
        have LL := HW.out.len
        obtain ⟨wx, hwx⟩ : ∃ wx, (wr.alloc (.cells #[.int .i64 id2, .int .i64 ver, .int .i64 rs, .int .i64 g2] 23)).drew = wx := ⟨_, rfl⟩
        have hbx : Below wr.heap.size wr wx := by rw [← hwx]; exact ((Below.refl _ _).alloc (Nat.le_refl _) _).drew
        have ht : wx.heap[wr.heap.size]? = some (.cells #[.int .i64 id2, .int .i64 ver, .int .i64 rs, .int .i64 g2] 23 (0, 0)) := by
          rw [← hwx]
          show (wr.heap.push _)[wr.heap.size]? = _
          simp
        have HT := Lib.hid ht
        have VX := Lib.hid (hvv.below hbx (Nat.le_refl _))
        have LX := Lib.hid (bel_trans HW.out.bel hbx)
        have CU := Lib.hid (fun W (h : Vals W av (regC Lv)) => cut13 ⟨id2, ver, rs, g2⟩ av m capv Lv W LL (by omega) h h0v)
        rw [shrink_plain HF.out hft HW.out.all, LL] at CU
        obtain ⟨kk, hkk⟩ : ∃ kk : Nat, m - (g2 - 1).toNat = kk := ⟨_, rfl⟩
        rw [hkk] at CU
        have k1 : (kk : Int) ≤ (m : Int) := by omega
        have k2 : (m : Int) - (kk : Int) ≤ g2 - 1 := by omega
        have k3 : (if g2 - 1 < (m : Int) then g2 - 1 else (m : Int)) ≤ (m : Int) - (kk : Int) := by split <;> omega
        have t0 := blk_cell (i := 0) ht; have t1 := blk_cell (i := 1) ht; have t2 := blk_cell (i := 2) ht; have t3 := blk_cell (i := 3) ht
        simp only [List.getElem?_toArray, List.getElem?_cons_zero, List.getElem?_cons_succ] at t0 t1 t2 t3
        rw [hwx]
        clear hwx hg2 hid2 hbx ht hvv x0 x1 x2 x3 h0v hft hkk hq0 hq1
        go_wp2_with fail
        with_reducible refine (CU.out _ VX.out).mono ?_
        rintro e wy ⟨rfl, hby⟩
        have HTY := Lib.hid ((hby.block _ (blk_lt HT.out)).trans HT.out)
        have LY := Lib.hid (bel_trans LX.out hby)
        clear hby t0 t1 t2 t3 HT VX LX
        go_wp2_with fail
        with_reducible refine (awake10 _).mono ?_
        rintro e wz ⟨rfl, hbz⟩
        have htz := (hbz.block _ (blk_lt HTY.out)).trans HTY.out
        have LZ := Lib.hid (bel_trans LY.out hbz)
        have t3 := blk_cell (i := 3) htz
        simp only [List.getElem?_toArray, List.getElem?_cons_zero, List.getElem?_cons_succ] at t3
        clear hbz htz
        go_wp2_with fail
        all_goals
          go_ret
          exact ⟨by first | rfl | (simp; omega), LZ.out⟩
end Go.Proofs.Ytkafffoaaklhiaa
