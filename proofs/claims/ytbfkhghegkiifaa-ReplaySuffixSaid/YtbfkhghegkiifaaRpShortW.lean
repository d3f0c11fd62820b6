/-
  Short, walked.
-/
import Derived.Test.YtbfkhghegkiifaaRpShort
import Derived.Deep.DrawnRows
namespace Go.Proofs.Ytbfkhghegkiifaa
open Go.RowKit
set_option linter.unusedVariables false
set_option maxRecDepth 100000 in
set_option maxHeartbeats 8000000 in
theorem short7 (a : Option Addr) (len cap : Nat) (w : World) (hlen : len ≤ 9223372036854775807) (hin : RawBts w a len) :
    Calls Try.prog 7 #[.slice a len cap] w (ShortE w) := by
  have HIN := Lib.hid hin
  obtain ⟨i0, hz, hz0, hz1, hz2⟩ := info_parts foundinfo
  have I1 := Lib.hid hz; have I2 := Lib.hid hz0; have I3 := Lib.hid hz1; have I4 := Lib.hid hz2
  obtain ⟨j0, hz, hz0, hz1, hz2⟩ := info_parts batchinfo
  have J1 := Lib.hid hz; have J2 := Lib.hid hz0; have J3 := Lib.hid hz1; have J4 := Lib.hid hz2
  obtain ⟨k0, hz, hz0, hz1, hz2⟩ := info_parts rbatchinfo
  have K1 := Lib.hid hz; have K2 := Lib.hid hz0; have K3 := Lib.hid hz1; have K4 := Lib.hid hz2
  have D0 := Lib.hid (show Du w w [] [] [] (.slice none 0 0) (.slice none 0 0) from ⟨Below.refl _ _, fun b hb => by simp at hb, own_nil _ _ _ _, own_nil _ _ _ _⟩)
  clear hin hz hz0 hz1 hz2
  go_enter Try.func7, Try.ntmps7
  go_wp2_with fail
  go_loopg [4, 5, 6, 7, 8, 9] 5 (fun gk av bv iv _ _ _ wr => ∃ (i : Nat) (va vb : Value) (bs : List Bt), i ≤ len ∧ i ≤ 5 ∧ va = av ∧ vb = bv ∧ iv = .int .i64 i ∧ gk + i = 5 ∧ Du w wr bs bs bs va vb ∧ Hid (bs.length = i))
  case atStart => exact ⟨0, _, _, [], by omega, by omega, rfl, rfl, rfl, by omega, D0.out, Lib.hid rfl⟩
  case round =>
    obtain ⟨i, va, vb, bs, hi, hi5, rfl, rfl, rfl, hgk, du, BL⟩ := hrel
    have DU := Lib.hid du
    have GK := Lib.hid hgk
    clear hgk D0
    by_cases hlt : i < len ∧ i < 5
    · obtain ⟨hl1, hl2⟩ := hlt
      obtain ⟨b, off, seq, la, ll, lc, g, rfl, hb, c0, c1, hll, hrows, hfds⟩ := HIN.out.at i hl1
      have RW := Lib.hid hrows
      have FD := Lib.hid hfds
      have hii : (i : Int) < len := by omega
      have hii5 : (i : Int) < 5 := by omega
      clear hrows hfds
      have E0 := Lib.hid (fun (W : World) (hb' : Below w.heap.size w W) => ((hb'.cell (p := ⟨b, off + i * 2, none⟩) hb).trans c0 : W.cell? ⟨b, off + i * 2, none⟩ = some (.int .i64 seq)))
      have hcc := bcell du.bel
      have c0 := (hcc.1 b (off + i * 2) hb).trans c0
      have c1 := (hcc.1 b (off + i * 2 + 1) hb).trans c1
      have hb := Nat.lt_of_lt_of_le hb du.bel.size
      obtain ⟨w1, hw1⟩ : ∃ w1, wr = w1 := ⟨_, rfl⟩
      rw [hw1] at DU hb c0 c1 ⊢
      clear hw1 du hcc
      go_wp2_with fail
      go_loopg [7, 8, 9] 8 (fun gk xv kv _ wr => ∃ (k : Nat) (v : Value) (fs : List Fd), k ≤ ll ∧ k ≤ 8 ∧ v = xv ∧ kv = .int .i64 k ∧ gk + k = 8 ∧ GatX w w1 wr v fs ∧ Hid (fs.length = k))
      case atStart => exact ⟨0, _, [], by omega, by omega, rfl, rfl, by omega, ⟨Below.refl _ _, own_nil _ _ _ _, fun f hf => by simp at hf⟩, Lib.hid rfl⟩
      case round =>
        obtain ⟨k, v, fs, hk, hk8, rfl, rfl, hgk2, ga, FL⟩ := hrel
        have GA := Lib.hid ga
        have GK2 := Lib.hid hgk2
        have hcc := bcell ga.bel
        have e0 := (hcc.1 b (off + i * 2) hb).trans c0
        have e1 := (hcc.1 b (off + i * 2 + 1) hb).trans c1
        have hb' : b < wr.heap.size := Nat.lt_of_lt_of_le hb ga.bel.size
        clear hgk2 hcc
        by_cases hlt2 : k < ll ∧ k < 8
        · obtain ⟨hl3, hl4⟩ := hlt2
          obtain ⟨b2, o2, fo, fl, fk, fe, ka, va', kc, vl, vc, key, rfl, hb2, d0, d1, d2, d3, d4, d5, kv, hkc, hkm, hkn⟩ := raw_fd RW.out FD.out k hl3
          have hcc := bcell (bel_trans DU.out.bel ga.bel)
          have d0 := (hcc.1 b2 (o2 + k * 6) hb2).trans d0
          have d1 := (hcc.1 b2 (o2 + k * 6 + 1) hb2).trans d1
          have d2 := (hcc.1 b2 (o2 + k * 6 + 2) hb2).trans d2
          have d3 := (hcc.1 b2 (o2 + k * 6 + 3) hb2).trans d3
          have d4 := (hcc.1 b2 (o2 + k * 6 + 4) hb2).trans d4
          have d5 := (hcc.1 b2 (o2 + k * 6 + 5) hb2).trans d5
          have hb2 := Nat.lt_of_lt_of_le hb2 (bel_trans DU.out.bel ga.bel).size
          have hkk : (k : Int) < ll := by omega
          have hkk8 : (k : Int) < 8 := by omega
          obtain ⟨ks, hks⟩ : ∃ ks, key.size = ks := ⟨_, rfl⟩
          rw [hks] at d3 hkc
          obtain ⟨n, hn⟩ : ∃ n, min ks 10 = n := ⟨_, rfl⟩
          have hmin : (if (10 : Int) < (ks : Int) then 10 else (ks : Int)) = (n : Int) := by
            rw [← hn]; split <;> omega
          have hmin2 : min (ks : Int) 10 = (n : Int) := by rw [← hn]; omega
          have hn0 : (0 : Int) ≤ (n : Int) := by omega
          have hnc : (n : Int) ≤ (kc : Int) := by rw [← hn]; omega
          have hn10 : n ≤ 10 := by rw [← hn]; omega
          obtain ⟨fd, hfd⟩ : ∃ fd : Fd, (⟨fo, fl, fk, fe, ka, kc, cutK key n⟩ : Fd) = fd := ⟨_, rfl⟩
          have hsz : (cutK key n).size = n := cutK_size key n (by rw [hks, ← hn]; omega)
          have FC := Lib.hid (show fd.cells = [.int .i64 fo, .int .i64 fl, .int .i64 fk, .slice ka n kc, .slice none 0 0, .int .i64 fe] from by rw [← hfd]; unfold Fd.cells; rw [hsz])
          have KI := Lib.hid (show KeyIn w fd from by
            rw [← hfd]
            refine ⟨?_, by rw [hsz]; exact hn10⟩
            show Vals w ka (byV (cutK key n))
            rw [byV_cut key n (by rw [hks, ← hn]; omega)]
            exact kv.take n)
          have HKS := Lib.hid hks
          have HN := Lib.hid hn
          have HFD := Lib.hid hfd
          clear hn hks hfd hsz kv hkn hcc
          obtain ⟨m, hm⟩ : ∃ m, fs.length = m := ⟨_, rfl⟩
          have hmk : m ≤ 8 := by have := FL.out; omega
          have HM := Lib.hid hm
          have GA2 := Lib.hid (GA.out.alloc (.cells #[.int .i64 fo, .int .i64 fl, .int .i64 fk, .slice ka n kc, .slice none 0 0, .int .i64 fe] 44))
          clear hm
          go_wp2_with (at_builtin; refine Stop.out ?_)
          refine Stop.of (wpList_app rfl _ _ 32 rfl w1.heap.size 44 i0 (.agg #[.int .i64 0, .int .i64 0, .int .i64 0, .slice none 0 0, .slice none 0 0, .int .i64 0]) 6 80 Try.underlying32 I1.out I2.out I3.out I4.out rfl (by decide) v m (fs.flatMap Fd.cells) rfl ((show _ from by have := GA2.out.own; rw [HM.out] at this; exact this : (wr.alloc (.cells #[.int .i64 fo, .int .i64 fl, .int .i64 fk, .slice ka n kc, .slice none 0 0, .int .i64 fe] 44)).ownsRow w1.heap.size 44 6 v m (fs.flatMap Fd.cells)).alloc _) _ 1 [.int .i64 fo, .int .i64 fl, .int .i64 fk, .slice ka n kc, .slice none 0 0, .int .i64 fe] rfl (src_lit #[.int .i64 fo, .int .i64 fl, .int .i64 fk, .slice ka n kc, .slice none 0 0, .int .i64 fe] (0, 0) (heap_two _ _ _) rfl) (by
            have := fd.cells_one
            rw [FC.out] at this
            exact this) (by unfold maxLen; omega) (by omega) (by have := GA2.out.bel.size; simp at this ⊢; omega) ?_)
          intro v2 w3 hown3 hg3
          have G3 := Lib.hid ((GA2.out.alloc _).app (p := fd) (by rw [HM.out, FC.out]; exact hown3) hg3 KI.out)
          have FL3 := Lib.hid (show (fs ++ [fd]).length = k + 1 from by rw [List.length_append, FL.out]; rfl)
          clear hown3 hg3 d0 d1 d2 d3 d4 d5 hb2 e0 e1
          go_wp2_with fail
          go_roundg (8 - (k + 1))
          case measure => have := GK2.out; omega
          case rel => exact ⟨k + 1, _, _, by omega, by omega, rfl, by go_num, by omega, G3.out, FL3⟩
        · obtain ⟨xa, xc, hx, -⟩ := ownsRow_vals ga.own
          rw [FL.out] at hx
          subst hx
          have XI := Lib.hid (ga.xin (by rw [FL.out]) DU.out.bel (by have := FL.out; omega) seq)
          have D1 := Lib.hid ((DU.out.below ga.bel).newX XI.out)
          have BX := Lib.hid (show (⟨seq, xa, xc, fs⟩ : Bt).cells = [.int .i64 seq, .slice xa k xc] from by unfold Bt.cells; rw [FL.out])
          obtain ⟨bx, hbx⟩ : ∃ bx : Bt, (⟨seq, xa, xc, fs⟩ : Bt) = bx := ⟨_, rfl⟩
          rw [hbx] at BX D1
          have hbl5 : bs.length ≤ 5 := by have := BL.out; omega
          have BL3 := Lib.hid (show (bs ++ [bx]).length = i + 1 from by rw [List.length_append, BL.out]; rfl)
          clear hbx
          by_cases hkl : k < ll
          all_goals
            have hex : ¬ (k < ll ∧ k < 8) := hlt2
            first
              | (have h50 : 8 ≤ k := by omega)
              | (have h50 : ll ≤ k := by omega)
            clear hlt2 hex ga
            go_wp2_with fail
            go_region_held3 (fun w' => w'.cell? ⟨b, off + i * 2, none⟩ = some (.int .i64 seq)) (first | exact e0 | exact E0.out _ DA.bel | exact E0.out _ DB.bel | go_keep)
              (first
                | ((with_reducible apply step_appA (hgd := rfl) (b := bx)); (case ho => exact rfl); (case D => first | exact (D1.out.alloc _).drew | exact ((D1.out.alloc _).alloc _).drew | exact DB | exact DB.alloc _); (case hs => exact rfl); (case hx => exact rfl); (case hg => first | exact heap_alloc_new _ _ | exact heap_two _ _ _ | exact heap_fst _ _ _ | exact KB _ _ _ _ tAB (heap_fst _ _ _) | exact KB _ _ _ _ tAB (heap_two _ _ _)); (case hb => exact BX.out); (case hl => exact hbl5); (intro v5 w5 DA KA))
                | ((with_reducible apply step_appB (hgd := rfl) (b := bx)); (case ho => exact rfl); (case D => first | exact (D1.out.alloc _).drew | exact ((D1.out.alloc _).alloc _).drew | exact DA | exact DA.alloc _); (case hs => exact rfl); (case hx => exact rfl); (case hg => first | exact heap_alloc_new _ _ | exact heap_two _ _ _ | exact heap_fst _ _ _ | exact KA _ _ _ _ tBA (heap_fst _ _ _) | exact KA _ _ _ _ tBA (heap_two _ _ _)); (case hb => exact BX.out); (case hl => exact hbl5); (intro v6 w6 DB KB)))
            all_goals
              have DA' := Lib.hid DA
              have DB' := Lib.hid DB
              clear DA DB KA KB e0 e1 c0 c1 hb'
              go_wp2_with fail
              go_roundg (5 - (i + 1))
              case measure => have := GK.out; omega
              case rel => first | exact ⟨i + 1, v5, v6, bs ++ [bx], by omega, by omega, rfl, rfl, by go_num, by omega, DA'.out, BL3⟩ | exact ⟨i + 1, v5, v6, bs ++ [bx], by omega, by omega, rfl, rfl, by go_num, by omega, DB'.out, BL3⟩
    · by_cases hil : i < len
      all_goals
        have hex : ¬ (i < len ∧ i < 5) := hlt
        first
          | (have h50 : 5 ≤ i := by omega)
          | (have h50 : len ≤ i := by omega)
        clear hlt hex du
        go_wp2_with fail
        go_ret2
        exact ⟨va, vb, bs, rfl, by have := BL.out; omega, DU.out⟩
end Go.Proofs.Ytbfkhghegkiifaa
