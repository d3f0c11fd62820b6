/-
  ChainScript: up to 40 calls agree with a list of items: every result, the region's items and the regions. No condition.
-/
import Derived.Test.YtdjjmglocdhnhaaChDuo
import Derived.Test.YtdjjmglocdhnhaaChAnd
import Derived.Deep.CutBlock
import Derived.Deep.DeepCutAuto
import Derived.Deep.RegionHeld3
import Derived.Deep.QuietTactic
namespace Go.Proofs.Ytdjjmglocdhnhaa
open Go.RowKit Go.WideShapes Go.ChangeShapes Go.ChangeAt
set_option linter.unusedVariables false
/-- an operation's box -/
def OpBox (w : World) (b : Nat) (kd s o : Int) (k : ByteArray) : Prop := w.heap[b]? = some (.cells #[.int .i64 kd, .int .i64 s, .int .i64 o, .string k] 27 (0, 0))
theorem OpBox.cells {w : World} {b : Nat} {kd s o : Int} {k : ByteArray} (h : OpBox w b kd s o k) : w.cell? ⟨b, 0, none⟩ = some (.int .i64 kd) ∧ w.cell? ⟨b, 1, none⟩ = some (.int .i64 s) ∧ w.cell? ⟨b, 2, none⟩ = some (.int .i64 o) ∧ w.cell? ⟨b, 3, none⟩ = some (.string k) := by
  unfold OpBox at h
  exact ⟨blk_cell (i := 0) h, blk_cell (i := 1) h, blk_cell (i := 2) h, blk_cell (i := 3) h⟩
theorem OpBox.kept {w w' : World} {b : Nat} {kd s o : Int} {k : ByteArray} {K : Nat → Prop} (h : OpBox w b kd s o k) (f : KeptF K w w') (hK : K b) : OpBox w' b kd s o k := f.block h hK
theorem OpBox.below {w w' : World} {b : Nat} {kd s o : Int} {k : ByteArray} (h : OpBox w b kd s o k) (f : Below w.heap.size w w') : OpBox w' b kd s o k := (f.block b (blk_lt h)).trans h
theorem keepB {wc W w' : World} {bx : Nat} {v : Value} (h : W.cell? ⟨bx, 1, none⟩ = some v ∧ Below wc.heap.size wc W) (hx : bx < wc.heap.size) (hb : Below W.heap.size W w') : w'.cell? ⟨bx, 1, none⟩ = some v ∧ Below wc.heap.size wc w' :=
  ⟨(hb.cell (p := ⟨bx, 1, none⟩) (Nat.lt_of_lt_of_le hx h.2.size)).trans h.1, bel_trans h.2 hb⟩
set_option maxRecDepth 100000 in
set_option maxHeartbeats 8000000 in
theorem cscriptlaw (a : Option Addr) (len cap : Nat) (f : Nat → Op17) (w : World) (hlen : len ≤ 9223372036854775807) (ho : Ops w a len f) (hwf : ∀ i, i < len → (f i).wf) :
    Calls Try.prog 4 #[.slice a len cap] w fun e w' => e = .returned (.bool true) ∧ Below w.heap.size w w' := by
  have HO := Lib.hid ho
  have HWF := Lib.hid hwf
  clear ho hwf
  go_enter Try.func4, Try.ntmps4
  go_wp2_with fail
  with_reducible refine (cho_new _).mono ?_
  rintro e w1 ⟨cb, rfl, c1⟩
  have D0 := Lib.hid (dub_new c1)
  clear c1
  go_wp2_with fail
  obtain ⟨bm, hbm⟩ : ∃ bm, w1.heap.size = bm := ⟨_, rfl⟩
  rw [hbm] at D0 ⊢
  clear hbm
  go_loopg [5, 6, 8] 40 (fun gk iv _ _ wr => ∃ (i : Nat) (L : List It), i ≤ len ∧ i ≤ 40 ∧ iv = .int .i64 i ∧ gk + i = 40 ∧ Hid (Dub w wr cb i L bm L (fun _ => False)) ∧ Hid (AscI L) ∧ L.length ≤ i)
  case atStart => exact ⟨0, [], by omega, by omega, rfl, by omega, D0, Lib.hid AscI.nil, by simp⟩
  case round =>
    obtain ⟨i, L, hi, hi40, rfl, hgk, D, HA, hL⟩ := hrel
    have GK := Lib.hid hgk
    clear hgk D0
    by_cases hlt : i < len ∧ i < 40
    · obtain ⟨hl1, hl2⟩ := hlt
      obtain ⟨b, off, rfl, hb, c0, c1, c2, c3⟩ := (HO.out.below D.out.bel).at i hl1
      obtain ⟨wf1, wf2, wf3⟩ := HWF.out i hl1
      obtain ⟨o, hfi⟩ : ∃ o, f i = o := ⟨_, rfl⟩
      rw [hfi] at c0 c1 c2 c3 wf1 wf2 wf3
      obtain ⟨kd, sq, fo, key⟩ := o
      clear hfi
      have W1 := Lib.hid wf1
      have W2 := Lib.hid wf2
      clear wf1 wf2
      simp only at c0 c1 c2 c3 wf3 W1 W2
      have hii : (i : Int) < len := by omega
      have hii40 : (i : Int) < 40 := by omega
      unfold maxLen at wf3
      obtain ⟨k, hkk⟩ : ∃ k, cutK key = k := ⟨_, rfl⟩
      have hks : k.size ≤ 10 := by rw [← hkk]; exact cutK_size key
      rcases cut_cases key with ⟨h30, hcut⟩ | ⟨h30, hcut⟩
      all_goals
        rw [hcut] at hkk
        first
          | (have hb31 : (10 : Int) ≤ (key.size : Int) := by omega
             have hb37 : min (key.size : Int) 10 = 10 := by omega
             have hb39 : min key.size 10 = 10 := by omega)
          | (have hb31 : ¬ (10 : Int) < (key.size : Int) := by omega
             have hb32 : (if (10 : Int) < (key.size : Int) then (10 : Int) else (key.size : Int)) = (key.size : Int) := if_neg hb31
             have hb33 : decide ((10 : Int) < (key.size : Int)) = false := decide_eq_false hb31
             have hb34 : ¬ (key.size : Int) < 0 := by omega
             have hb35 : ¬ key.size < key.size := by omega
             have hb37 : min (key.size : Int) 10 = (key.size : Int) := by omega
             have hb39 : min key.size 10 = key.size := by omega)
        clear hcut h30
        have HKK := Lib.hid hkk
        clear hkk
        go_upto_block 2 with fail
        rw [HKK.out]
        clear HKK c0 c1 c2 c3 hb
        first | clear hb31 hb37 hb39 hb32 hb33 hb34 hb35 | clear hb31 hb37 hb39
        have hxx : ∀ ob, (wr.alloc ob).heap[wr.heap.size]? = some ob := fun ob => by show (wr.heap.push _)[wr.heap.size]? = _; simp
        have D2 := Lib.hid (D.out.grow (K' := fun j => j = wr.heap.size) ((Below.refl wr.heap.size wr).alloc (Nat.le_refl _) (.cells #[.int .i64 kd, .int .i64 sq, .int .i64 fo, .string k] 27)) (by rintro j rfl; exact .inr ⟨Nat.le_refl _, by show _ < (wr.heap.push _).size; rw [Array.size_push]; omega⟩))
        have BX := Lib.hid (show OpBox (wr.alloc (.cells #[.int .i64 kd, .int .i64 sq, .int .i64 fo, .string k] 27)) wr.heap.size kd sq fo k from hxx _)
        generalize wr.heap.size = bx at D2 BX ⊢
        generalize wr.alloc (.cells #[.int .i64 kd, .int .i64 sq, .int .i64 fo, .string k] 27) = w2 at D2 BX ⊢
        clear hxx D
        obtain ⟨x0, x1, x2, x3⟩ := BX.out.cells
        have hxs := blk_lt BX.out
        go_cut [] (fun wx => ∃ L', Hid (Dub w wx cb (i + 1) L' bm L' (fun j => j = bx)) ∧ Hid (AscI L') ∧ L'.length ≤ i + 1 ∧ Hid (OpBox wx bx kd sq fo k))
        case first =>
          by_cases hk0 : kd = 0
          · have hk0b : (kd == 0) = true := by simp [hk0]
            clear hk0
            have ADD := Lib.hid (dub_add sq fo k w2 W1.out W2.out (by unfold maxLen; omega) (by omega) HA.out D2.out)
            go_wp2_with fail
            with_reducible refine ADD.out.mono ?_
            rintro e w3 ⟨rfl, d3, kp⟩
            have BX3 := Lib.hid (BX.out.kept kp rfl)
            have RADD := Lib.hid (dub_radd sq fo k w3 (by omega) HA.out d3)
            clear x0 x1 x2 x3 hxs d3 kp ADD
            obtain ⟨x0, x1, x2, x3⟩ := BX3.out.cells
            have hxs := blk_lt BX3.out
            go_wp2_with fail
            with_reducible refine RADD.out.mono ?_
            rintro e w4 ⟨rfl, d4, kp⟩
            have BX4 := Lib.hid (BX3.out.kept kp rfl)
            have D4 := Lib.hid d4
            clear d4 kp x0 x1 x2 x3 hxs
            go_wp2_with fail
            go_meet
            exact ⟨adI L sq fo k, D4, Lib.hid (HA.out.ad _ _ _), by have := adI_length_le L sq fo k; omega, BX4⟩
          · have hk0b : (kd == 0) = false := by simp [hk0]
            clear hk0
            have HD0 := Lib.hid (D2.out.below (Below.refl w2.heap.size w2).drew)
            have BX0 := Lib.hid (BX.out.below (Below.refl w2.heap.size w2).drew)
            by_cases hk1 : kd = 1
            · have hk1b : (kd == 1) = true := by simp [hk1]
              clear hk1
              obtain ⟨bb, hbb⟩ : ∃ bb, decide (HasO L sq fo) = bb := ⟨_, rfl⟩
              have HBB := Lib.hid hbb
              clear hbb
              cases bb
              all_goals
                go_wp2_with fail
                go_region_held3 (fun w' => w'.cell? ⟨bx, 1, none⟩ = some (.int .i64 sq) ∧ w'.cell? ⟨bx, 2, none⟩ = some (.int .i64 fo)) (first | exact ⟨x1, x2⟩ | exact hS | exact hS5)
                  (first
                    | (go_at_call 12; first
                        | ((with_reducible refine (dub_rm sq fo _ W1.out W2.out (by omega) HA.out _ HBB.out HD0.out).mono ?_); rintro e3 w3 ⟨rfl, dC, kC⟩; have bC := BX0.out.kept kC rfl; have hS := And.intro bC.cells.2.1 bC.cells.2.2.1)
                        | ((with_reducible refine (dub_rm sq fo _ W1.out W2.out (by omega) HA.out _ HBB.out dR).mono ?_); rintro e5 w5 ⟨rfl, dF, kF⟩; have bF := bR.kept kF rfl; have hS5 := And.intro bF.cells.2.1 bF.cells.2.2.1))
                    | (go_at_call 13; first
                        | ((with_reducible refine (dub_rrm sq fo _ (by omega) HA.out _ HBB.out HD0.out).mono ?_); rintro e3 w3 ⟨rfl, dR, kR⟩; have bR := BX0.out.kept kR rfl; have hS := And.intro bR.cells.2.1 bR.cells.2.2.1)
                        | ((with_reducible refine (dub_rrm sq fo _ (by omega) HA.out _ HBB.out dC).mono ?_); rintro e5 w5 ⟨rfl, dF, kF⟩; have bF := bC.kept kF rfl; have hS5 := And.intro bF.cells.2.1 bF.cells.2.2.1)))
                all_goals
                  have DF := Lib.hid (dF.ltN (Nat.le_succ i))
                  have BF := Lib.hid bF
                  clear dF bF hS hS5 x0 x1 x2 x3 hxs kF
                  go_wp2_with fail
                  go_meet
                  exact ⟨rmI L sq fo, DF, Lib.hid (HA.out.rm _ _), by have := rmI_length_le L sq fo; omega, BF⟩
            · have hk1b : (kd == 1) = false := by simp [hk1]
              clear hk1
              obtain ⟨n, hn⟩ : ∃ n, (itsI L sq).length = n := ⟨_, rfl⟩
              have hn40 : n ≤ 40 := by have h4 : (itsI L sq).length ≤ L.length := List.length_filter_le _ _; omega
              have HN := Lib.hid hn
              clear hn
              go_wp2_with fail
              go_region_held3 (fun w' => w'.cell? ⟨bx, 1, none⟩ = some (.int .i64 sq)) (first | exact x1 | exact hS | exact hS5 | exact hS7)
                (first
                  | (go_at_call 9; first
                      | ((with_reducible refine (dub_drop sq _ W1.out (by omega) HA.out n HN.out HD0.out).mono ?_); rintro e3 w3 ⟨a3, c3, rfl, vC, dC, kC⟩; have bC := BX0.out.kept kC rfl; have hS := bC.cells.2.1)
                      | ((with_reducible refine (dub_drop sq _ W1.out (by omega) HA.out n HN.out dG).mono ?_); rintro e5 w5 ⟨a5, c5, rfl, vA, dF0, kF⟩; have bF := bR.kept kF (.inl rfl); have vB := kF.vals vR (fun b off e => .inr (h4 b off e)); have dF := dF0.mono (K' := fun j => j = bx) (fun j hj => .inl hj); have hS5 := bF.cells.2.1))
                  | (go_at_call 15; first
                      | ((with_reducible refine (dub_ritems sq _ (by omega) n HN.out HD0.out).mono ?_); rintro e4 w4 ⟨a4, c4, rfl, vR, h4, hb4⟩; have dG := HD0.out.grow hb4 (K' := fun j => j = bx ∨ (w2.drew.heap.size ≤ j ∧ j < w4.heap.size)) (fun j hj => hj); have bR := BX0.out.below hb4; have hS := bR.cells.2.1)
                      | ((with_reducible refine (dub_ritems sq _ (by omega) n HN.out dC).mono ?_); rintro e5 w5 ⟨a5, c5, rfl, vB, -, hb5⟩; have vA := vC.below hb5 (Nat.le_refl _); have dF := dC.below hb5; have bF := bC.below hb5; have hS5 := bF.cells.2.1))
                  | (go_at_call 14; (with_reducible refine (same14 _ _ n _ _ (itsI L sq) _ HN.out (by omega) vA vB).mono ?_); rintro e7 w7 ⟨rfl, hb7⟩; have d7 := dF.below hb7; have b7 := bF.below hb7; have hS7 := b7.cells.2.1))
              all_goals
                have D7 := Lib.hid d7
                have B7 := Lib.hid b7
                clear d7 b7 dF bF vA vB hS hS5 hS7 x0 x1 x2 x3 hxs hb7
                obtain ⟨x0, x1, x2, x3⟩ := B7.out.cells
                have hxs := blk_lt B7.out
                have RI := Lib.hid (dub_ritems sq _ (by omega) n HN.out D7.out)
                go_wp2_with fail
                with_reducible refine RI.out.mono ?_
                rintro e w8 ⟨a8, c8, rfl, v8, h8, hb8⟩
                have D8 := Lib.hid (D7.out.grow hb8 (K' := fun j => j = bx ∨ (w7.heap.size ≤ j ∧ j < w8.heap.size)) (fun j hj => hj))
                have B8 := Lib.hid (B7.out.below hb8)
                have V8 := Lib.hid v8
                have H8 := Lib.hid h8
                clear v8 h8 hb8 x0 x1 x2 x3 hxs RI
                go_wp2_with fail
                go_loopg [8, 51] n (fun gk _ jv w9 => ∃ (j : Nat) (Lj : List It), j ≤ n ∧ jv = .int .i64 j ∧ gk + j = n ∧ Hid (Dub w w9 cb i (dropI L sq) bm Lj (fun j => j = bx ∨ (w7.heap.size ≤ j ∧ j < w8.heap.size))) ∧ Hid (LeftI L Lj sq j) ∧ Hid (Vals w9 a8 ((itsI L sq).flatMap itC3)) ∧ Hid (OpBox w9 bx kd sq fo k))
                case atStart => exact ⟨0, L, by omega, rfl, by omega, D8, Lib.hid (LeftI.start HA.out sq), V8, B8⟩
                case round =>
                  obtain ⟨j, Lj, hj, rfl, hgk, D9, LE, V9, B9⟩ := hrel
                  have GK3 := Lib.hid hgk
                  clear hgk D8 B8
                  by_cases hlt : j < n
                  · obtain ⟨z, hz⟩ : ∃ z, (itsI L sq)[j]? = some z := ⟨_, List.getElem?_eq_getElem (by have := HN.out; omega)⟩
                    obtain ⟨g1, o1, rfl, hg1, p0, p1, p2⟩ := V9.out.it3 j z hz
                    have hji : (j : Int) < n := by omega
                    have LE2 := Lib.hid (LE.out.step HA.out hz)
                    have hbA : Below wr.heap.size wr (wr.alloc (.cells #[.int .i64 z.seq, .int .i64 z.off, .string z.key] 43)) := (Below.refl _ _).alloc (Nat.le_refl _) _
                    have RM := Lib.hid (dub_rrm z.seq z.off _ (by have := LE.out.len; omega) LE.out.asc _ rfl (D9.out.below hbA))
                    have VA := Lib.hid (V9.out.below hbA (Nat.le_refl _))
                    have BA := Lib.hid (B9.out.below hbA)
                    clear hz hbA V9 B9 LE D9
                    go_wp2_with fail
                    with_reducible refine RM.out.mono ?_
                    rintro e w9 ⟨rfl, d9, k9⟩
                    have D10 := Lib.hid d9
                    have V10 := Lib.hid (k9.vals VA.out (fun b off e => .inr (H8.out b off e)))
                    have B10 := Lib.hid (BA.out.kept k9 (.inl rfl))
                    clear d9 k9 VA BA RM
                    go_wp2_with fail
                    go_roundg (n - (j + 1))
                    case measure => have := GK3.out; omega
                    case rel => exact ⟨j + 1, _, by omega, by go_num, by omega, D10, LE2, V10, B10⟩
                  · obtain rfl : j = n := by omega
                    have hLj := LE.out
                    rw [← HN.out] at hLj
                    have HLJ := Lib.hid (hLj.stop HA.out)
                    have D10 := Lib.hid ((D9.out.mono (K' := fun j => j = bx) (fun j hj => .inl hj)).ltN (Nat.le_succ i))
                    rw [HLJ.out] at D10
                    clear hLj
                    go_wp2_with fail
                    go_meet
                    exact ⟨dropI L sq, D10, Lib.hid (HA.out.drop _), by have := dropI_length_le L sq; omega, B9⟩
        case rest =>
          obtain ⟨L4, D4, HA4, hl4, BX4⟩ := hcut
          rename_i wc _
          clear D2 BX x0 x1 x2 x3 hxs HA hL
          obtain ⟨x0, x1, x2, x3⟩ := BX4.out.cells
          have hxs := blk_lt BX4.out
          obtain ⟨n, hn⟩ : ∃ n, (itsI L4 sq).length = n := ⟨_, rfl⟩
          obtain ⟨m, hm⟩ : ∃ m, (seqI L4).length = m := ⟨_, rfl⟩
          have hn41 : n ≤ 41 := by have h4 : (itsI L4 sq).length ≤ L4.length := List.length_filter_le _ _; omega
          have hm41 : m ≤ 41 := by have h4 := seqI_length_le L4; omega
          have IT := Lib.hid (fun (W : World) (hW : Below wc.heap.size wc W) => dub_items sq W W1.out (by omega) HA4.out n hn (D4.out.below hW))
          have RI := Lib.hid (fun (W : World) (hW : Below wc.heap.size wc W) => dub_ritems sq W (by omega) n hn (D4.out.below hW))
          have SQ := Lib.hid (fun (W : World) (hW : Below wc.heap.size wc W) => dub_seqs W (by omega) HA4.out m hm (D4.out.below hW))
          have RS := Lib.hid (fun (W : World) (hW : Below wc.heap.size wc W) => dub_rseqs W (by omega) HA4.out m hm (D4.out.below hW))
          have HN := Lib.hid hn
          have HM := Lib.hid hm
          clear hn hm
          go_wp2_with fail
          go_region_held3 (fun w' => w'.cell? ⟨bx, 1, none⟩ = some (.int .i64 sq) ∧ Below wc.heap.size wc w') (first | exact ⟨x1, (Below.refl _ _).drew⟩ | exact keepB (by assumption) hxs hbS)
            (first
              | (go_at_call 8; first
                  | (have hz := vR; (with_reducible refine (IT.out _ ?_).mono ?_); (exact (by assumption : _ ∧ _).2); rintro e4 w4 ⟨a4, c4, rfl, vA, hbS⟩; have vB := vR.below hbS (Nat.le_refl _))
                  | ((with_reducible refine (IT.out _ ?_).mono ?_); (exact (by assumption : _ ∧ _).2); rintro e4 w4 ⟨a4, c4, rfl, vC, hbS⟩))
              | (go_at_call 15; first
                  | (have hz := vC; (with_reducible refine (RI.out _ ?_).mono ?_); (exact (by assumption : _ ∧ _).2); rintro e5 w5 ⟨a5, c5, rfl, vB, -, hbS⟩; have vA := vC.below hbS (Nat.le_refl _))
                  | ((with_reducible refine (RI.out _ ?_).mono ?_); (exact (by assumption : _ ∧ _).2); rintro e5 w5 ⟨a5, c5, rfl, vR, -, hbS⟩))
              | (go_at_call 14; (with_reducible refine (same14 _ _ n _ _ (itsI L4 sq) _ HN.out (by omega) vA vB).mono ?_); rintro e6 w6 ⟨rfl, hbS⟩)
              | (go_at_call 17; first
                  | (have hz := sR; (with_reducible refine (SQ.out _ ?_).mono ?_); (exact (by assumption : _ ∧ _).2); rintro e7 w7 ⟨a7, c7, rfl, sA, hbS⟩; have sB := sR.below hbS (Nat.le_refl _))
                  | ((with_reducible refine (SQ.out _ ?_).mono ?_); (exact (by assumption : _ ∧ _).2); rintro e7 w7 ⟨a7, c7, rfl, sC, hbS⟩))
              | (go_at_call 18; first
                  | (have hz := sC; (with_reducible refine (RS.out _ ?_).mono ?_); (exact (by assumption : _ ∧ _).2); rintro e8 w8 ⟨a8, c8, rfl, sB, hbS⟩; have sA := sC.below hbS (Nat.le_refl _))
                  | ((with_reducible refine (RS.out _ ?_).mono ?_); (exact (by assumption : _ ∧ _).2); rintro e8 w8 ⟨a8, c8, rfl, sR, hbS⟩))
              | (go_at_call 16; (with_reducible refine (ints16 _ _ m _ _ (seqI L4) _ HM.out (by omega) sA sB).mono ?_); rintro e9 w9 ⟨rfl, hbS⟩))
          all_goals
            have DF := Lib.hid ((D4.out.below (w' := w9) (by assumption : _ ∧ _).2).mono (K' := fun _ => False) (fun j hj => hj.elim))
            clear hbS
            go_wp2_with fail
            go_roundg (40 - (i + 1))
            case measure => have := GK.out; omega
            case rel => exact ⟨i + 1, L4, by omega, by omega, by go_num, by omega, DF, HA4, by omega⟩
    · have hex : (len : Int) ≤ i ∨ ((i : Int) < len ∧ (40 : Int) ≤ i) := by omega
      clear hlt
      rcases hex with h30 | ⟨h31, h30⟩
      all_goals
        go_wp2_with fail
        with_reducible refine (awake10 _).mono ?_
        rintro e w7 ⟨rfl, hb7⟩
        have B7 := Lib.hid (bel_trans D.out.bel hb7)
        clear hb7
        go_wp2_with fail
        go_ret
        exact ⟨rfl, B7.out⟩
set_option maxRecDepth 100000 in
theorem walkChainScript (v0 : Value) (w : World) (base : Nat)
    (o0 : Value.okWide Try.prog w .any base 22 v0) (r0 : Reads Try.prog w 22 v0.cells.toList) :
    Calls Try.prog 4 #[v0] w fun e w' => e = .returned (.bool true) ∧ Below w.heap.size w w' := by
  obtain ⟨a, len, cap, f, rfl, hlen, ho, hwf⟩ := arg_ops o0 r0
  exact cscriptlaw a len cap f w hlen ho hwf
set_option maxRecDepth 100000 in
theorem liftedChainScript (os : Os) (started : os.Started) (H : Type) (enc : TypeId × Value → H) :
    ReturnsInHanded {} Try.checked os 4 .any (Rows.chainScriptSpec.pre6 enc Try.prog Try.f4 Rows.chainScriptRow.domain false) (Rows.chainScriptSpec.post enc Try.prog Try.f4 false true false false) := by
  refine returnsInHanded_of_change (C := Try.checked) own started (by kernel_rfl) Try.func4
    (ChangeSpec.witness6 (enc := enc) (C := Try.checked) false ⟨#[], #[.slice none 0 0], []⟩ 8 (by kernel_rfl) (by kernel_rfl) (by kernel_rfl) (by kernel_rfl)) ?_
  intro W base args ds gs before hval0 hW hcnd _
  have hval : ∀ (j : Nat) t v, Try.f4.params[j]? = some t → args[j]? = some v → Value.okWide Try.prog W .any base t v := hval0
  have hW' := hW
  obtain ⟨p, q, hA0, hV, rfl, hfz, hnd⟩ := hW
  have hA : DataW.TrodAll enc Try.prog W 0 (fun _ => true) true Try.f4.params.toList args.toList ds p := hA0
  rw [Try.params4] at hA hval
  obtain ⟨v0, vs0, d0, ds0, p0, q0, hargs, rfl, rfl, h0, r0⟩ := trodAll_cons hA
  obtain ⟨rfl, rfl, rfl⟩ := trodAll_nil r0
  obtain rfl : args = #[v0] := by cases args; simp_all
  obtain ⟨rfl, rfl⟩ := trodVars_none hV
  have lt0 : ∀ x ∈ p0, x.block < W.heap.size := by obtain ⟨m, hm⟩ := h0; exact DataW.trod_lt m _ _ _ hm
  clear hA0 hval0
  refine (walkChainScript v0 W base (hval 0 22 v0 rfl rfl) (Reads.of h0)).mono fun e W' ⟨he, bel⟩ => ?_
  subst he
  exact ⟨_, rfl, _, _, _, [], _, [], hW', trodAll_mk1 (shut_bool Try.underlying4 _), (trodAll_cons_mk (Below.trod laidOut (by kernel_rfl) (of_decide_eq_true (by kernel_rfl)) h0 bel lt0) trodAll_mk0), rfl, bel.frame _, fun h => by cases h⟩

theorem overChainScript : Rows.chainScriptRow.holds Try.pinned (OpenSpec.ofChange Rows.chainScriptSpec) :=
  OpenClaim.holds_of_wide 4 Try.f4 rfl rfl rfl rfl rfl rfl rfl ⟨rfl, rfl, rfl, rfl, rfl⟩ rfl rfl rfl rfl rfl (by kernel_rfl) Try.func4 (by kernel_rfl)
    (of_decide_eq_true (by kernel_rfl)) (by unfold Func.isWrapper; first | (rw [if_pos (by decide +kernel)]; kernel_rfl) | (rw [if_neg (by decide +kernel)]; exact ⟨rfl, rfl⟩))
    (fun os started H enc _ => liftedChainScript os started H enc)

/-- The statement. -/
theorem chainScript_holds : Rows.ChainScriptSaid := overChainScript
#print axioms chainScript_holds
end Go.Proofs.Ytdjjmglocdhnhaa
