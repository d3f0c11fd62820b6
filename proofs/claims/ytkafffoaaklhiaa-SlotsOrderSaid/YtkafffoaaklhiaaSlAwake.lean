/-
  The sanity check of the statements about slots.
-/
import Derived.Test.YtkafffoaaklhiaaSlCut
namespace Go.Proofs.Ytkafffoaaklhiaa
open Go.RowKit
set_option linter.unusedVariables false
def layA : Lay := ⟨1, 1, 4, 4⟩
def liveA : Nat → List Reg
  | 0 => []
  | i + 1 => liveA i ++ [⟨0, (i : Int), 0, 9 - (i : Int), 0, 0, layA⟩]
theorem liveA_len (i : Nat) : (liveA i).length = i := by
  induction i with
  | zero => rfl
  | succ i ih => simp [liveA, ih]
theorem aw1 : chS layA (liveA 3) = 3 := by decide +kernel
theorem aw2 : chB layA (liveA 3) = true := by decide +kernel
theorem aw3 : tailD (liveA 3) 20 = 7 := by decide +kernel
theorem aw4 : cutD layA (liveA 3) = 0 := by decide +kernel
theorem aw5 : cutD ⟨2, 1, 2, 4⟩ (liveA 3) = 2 := by decide +kernel
theorem aw6 : spB layA (liveA 3) 3 = false := by decide +kernel
set_option maxRecDepth 100000 in
set_option maxHeartbeats 4000000 in
theorem awake10 (w : World) : Calls Try.prog 10 #[] w fun e w' => e = .returned (.bool true) ∧ Below w.heap.size w w' := by
  obtain ⟨i0, hi, hz0, hz1, hz2⟩ := info_parts reginfo
  have I1 := Lib.hid hi; have I2 := Lib.hid hz0; have I3 := Lib.hid hz1; have I4 := Lib.hid hz2
  clear hi hz0 hz1 hz2
  go_enter Try.func10, Try.ntmps10
  go_wp2_with fail
  go_loopg [2, 3] 3 (fun gk v iv wr => ∃ i : Nat, iv = .int .i64 i ∧ i ≤ 3 ∧ gk = 3 - i ∧ wr.ownsRow (w.heap.size + 1) 36 10 v i (regC (liveA i)) ∧ Below (w.heap.size + 1) (w.alloc (.cells #[.int .i64 1, .int .i64 1, .int .i64 4, .int .i64 4] 23)) wr)
  case atStart => exact ⟨0, rfl, by omega, rfl, World.ownsRow_nil _ _ _ _, Below.refl _ _⟩
  case round =>
    obtain ⟨i, rfl, hi, hgk, hown, hb⟩ := hrel
    have GK := Lib.hid hgk
    have O := Lib.hid hown
    have B := Lib.hid hb
    have hsz := hb.size
    simp at hsz
    have hx : wr.heap[w.heap.size]? = some (.cells #[.int .i64 1, .int .i64 1, .int .i64 4, .int .i64 4] 23 (0, 0)) := by
      rw [hb.block w.heap.size (by omega)]
      show (w.heap.push _)[w.heap.size]? = _
      simp
    have x0 := blk_cell (i := 0) hx; have x1 := blk_cell (i := 1) hx; have x2 := blk_cell (i := 2) hx; have x3 := blk_cell (i := 3) hx
    simp only [List.getElem?_toArray, List.getElem?_cons_zero, List.getElem?_cons_succ] at x0 x1 x2 x3
    have HX := Lib.hid hx
    clear hgk hown hb hx
    by_cases hlt : i < 3
    · go_wp2_with (at_builtin; refine Stop.out ?_)
      refine Stop.of (wpList_app rfl _ _ 24 rfl (w.heap.size + 1) 36 i0 (.agg #[.int .i64 0, .int .i64 0, .int .i64 0, .int .i64 0, .int .i64 0, .int .i64 0, .int .i64 0, .int .i64 0, .int .i64 0, .int .i64 0]) 10 80 Try.underlying24 I1.out I2.out I3.out I4.out rfl (by decide) _ i _ rfl (O.out.alloc _) (.slice (some ⟨wr.heap.size, 0, none⟩) 1 1) 1 (regC [⟨0, (i : Int), 0, 9 - (i : Int), 0, 0, layA⟩]) rfl (src_lit #[.int .i64 0, .int .i64 (i : Int), .int .i64 0, .int .i64 (9 - (i : Int)), .int .i64 0, .int .i64 0, .int .i64 1, .int .i64 1, .int .i64 4, .int .i64 4] (0, 0) (heap_alloc_new wr _) rfl) (regC_one _) (by unfold maxLen; omega) (by omega) (by simp; omega) ?_)
      intro v1 w1 hown hg
      rw [← regC_app] at hown
      have O1 := Lib.hid hown
      have B1 := Lib.hid ((B.out.alloc (by omega) _).grown hg (by simp; omega) (fun j hj => (O.out.lt j hj).1))
      clear hown hg x0 x1 x2 x3
      go_wp2_with fail
      go_roundg (3 - (i + 1))
      case measure => have := GK.out; omega
      case rel => exact ⟨i + 1, by go_num, by omega, rfl, O1.out, B1.out⟩
    · have hi3 : i = 3 := by omega
      subst hi3
      obtain ⟨a, cap, rfl, hvs, hnc, hcm, _, h0, _⟩ := ownsRow_vals O.out
      have VS := Lib.hid hvs
      have HL := Lib.hid (show Below w.heap.size w wr from ((Below.refl w.heap.size w).alloc (Nat.le_refl _) _).trans (B.out.mono (by omega)))
      have H0 := Lib.hid h0
      have C1 := Lib.hid (fun W (h : Vals W a (regC (liveA 3))) => choose8 layA a 3 cap (liveA 3) W (liveA_len 3) (by omega) h)
      have C2 := Lib.hid (fun W (h : Vals W a (regC (liveA 3))) => tail16 a 3 cap (liveA 3) 20 W (liveA_len 3) (by omega) h H0.out)
      have C3 := Lib.hid (fun W (h : Vals W a (regC (liveA 3))) => cut13 layA a 3 cap (liveA 3) W (liveA_len 3) (by omega) h H0.out)
      have C4 := Lib.hid (fun W (h : Vals W a (regC (liveA 3))) => cut13 ⟨2, 1, 2, 4⟩ a 3 cap (liveA 3) W (liveA_len 3) (by omega) h H0.out)
      have C5 := Lib.hid (fun W (h : Vals W a (regC (liveA 3))) => spare11 layA a 3 cap (liveA 3) 3 W (liveA_len 3) (by omega) h)
      rw [aw1, aw2] at C1
      rw [aw3] at C2
      rw [aw4] at C3
      rw [aw5] at C4
      rw [aw6] at C5
      simp only [layA] at C1 C3 C5
      clear hvs h0 hlt GK
      go_wp2_with fail
      with_reducible refine (C1.out _ VS.out).mono ?_
      rintro e w2 ⟨rfl, hb2⟩
      have X2 := Lib.hid ((hb2.block _ (blk_lt HX.out)).trans HX.out)
      have V2 := Lib.hid (VS.out.below hb2 (Nat.le_refl _))
      have L2 := Lib.hid (bel_trans HL.out hb2)
      clear hb2 x0 x1 x2 x3
      go_wp2_with fail
      with_reducible refine (C2.out _ V2.out).mono ?_
      rintro e w3 ⟨rfl, hb3⟩
      have hx3 := (hb3.block _ (blk_lt X2.out)).trans X2.out
      have X3 := Lib.hid hx3
      have V3 := Lib.hid (V2.out.below hb3 (Nat.le_refl _))
      have L3 := Lib.hid (bel_trans L2.out hb3)
      have x0 := blk_cell (i := 0) hx3; have x1 := blk_cell (i := 1) hx3; have x2 := blk_cell (i := 2) hx3; have x3 := blk_cell (i := 3) hx3
      simp only [List.getElem?_toArray, List.getElem?_cons_zero, List.getElem?_cons_succ] at x0 x1 x2 x3
      clear hb3 hx3
      go_wp2_with fail
      with_reducible refine (C3.out _ V3.out).mono ?_
      rintro e w4 ⟨rfl, hb4⟩
      have X4 := Lib.hid ((hb4.block _ (blk_lt X3.out)).trans X3.out)
      have V4 := Lib.hid (V3.out.below hb4 (Nat.le_refl _))
      have L4 := Lib.hid (bel_trans L3.out hb4)
      clear hb4 x0 x1 x2 x3
      go_wp2_with fail
      with_reducible refine (C4.out _ V4.out).mono ?_
      rintro e w5 ⟨rfl, hb5⟩
      have hx5 := (hb5.block _ (blk_lt X4.out)).trans X4.out
      have V5 := Lib.hid (V4.out.below hb5 (Nat.le_refl _))
      have L5 := Lib.hid (bel_trans L4.out hb5)
      have x0 := blk_cell (i := 0) hx5; have x1 := blk_cell (i := 1) hx5; have x2 := blk_cell (i := 2) hx5; have x3 := blk_cell (i := 3) hx5
      simp only [List.getElem?_toArray, List.getElem?_cons_zero, List.getElem?_cons_succ] at x0 x1 x2 x3
      clear hb5 hx5
      go_wp2_with fail
      with_reducible refine (C5.out _ V5.out).mono ?_
      rintro e w6 ⟨rfl, hb6⟩
      have L6 := Lib.hid (bel_trans L5.out hb6)
      clear hb6
      go_wp2_with fail
      go_ret
      exact ⟨rfl, L6.out⟩
end Go.Proofs.Ytkafffoaaklhiaa
