/-
  TableScript: up to 80 calls agree with a list of pairs: every result, Len and Pairs. No condition.
-/
import Derived.Test.YtkjhofmimggpnaaTabRead
import Derived.Test.YtkjhofmimggpnaaDuoTab
import Derived.Test.YtkjhofmimggpnaaEqT
import Derived.Deep.CutBlock
import Derived.Deep.RegionHeld3
namespace Go.Proofs.Ytkjhofmimggpnaa
open Go.RowKit Go.Maps Go.ChangeShapes Go.WideShapes Go.ChangeAt
set_option linter.unusedVariables false
/-- an operation's box -/
def OpBox (w : World) (b : Nat) (o : Op16) : Prop := w.heap[b]? = some (.cells #[.int .i64 o.kd, .int .i64 o.ky, .int .i64 o.en.seq, .int .i64 o.en.off, .int .i64 o.en.len, .int .i64 o.en.exp, .bool o.en.hit] 35 (0, 0))
theorem OpBox.cells {w : World} {b : Nat} {o : Op16} (h : OpBox w b o) : w.cell? ⟨b, 0, none⟩ = some (.int .i64 o.kd) ∧ w.cell? ⟨b, 1, none⟩ = some (.int .i64 o.ky) ∧ w.cell? ⟨b, 2, none⟩ = some (.int .i64 o.en.seq) ∧ w.cell? ⟨b, 3, none⟩ = some (.int .i64 o.en.off) ∧ w.cell? ⟨b, 4, none⟩ = some (.int .i64 o.en.len) ∧ w.cell? ⟨b, 5, none⟩ = some (.int .i64 o.en.exp) ∧ w.cell? ⟨b, 6, none⟩ = some (.bool o.en.hit) := by
  unfold OpBox at h
  exact ⟨blk_cell (i := 0) h, blk_cell (i := 1) h, blk_cell (i := 2) h, blk_cell (i := 3) h, blk_cell (i := 4) h, blk_cell (i := 5) h, blk_cell (i := 6) h⟩
theorem OpBox.kept {w w' : World} {B b : Nat} {o : Op16} (h : OpBox w b o) (k : Kept B w w') (hb : B ≤ b) : OpBox w' b o := (k.2 b hb (blk_lt h)).trans h
theorem OpBox.below {w w' : World} {b : Nat} {o : Op16} (h : OpBox w b o) (k : Below w.heap.size w w') : OpBox w' b o := (k.block b (blk_lt h)).trans h
theorem pairs_like (tb bm : Nat) (T : Tab) (L : List Pr) (w0 wr w : World) (h : Duo w0 wr tb T bm L) (hl : Like T L) (hb : Below wr.heap.size wr w) (n : Nat) (hn : L.length = n) :
    Calls Try.prog 21 #[.pointer (some ⟨tb, 0, none⟩)] w fun e w' => ∃ a c, e = .returned (.slice a n c) ∧ Vals w' a (pairsC L) ∧ Below w.heap.size w w' := by
  refine (duo_pairs tb bm T L w0 w (h.below hb)).mono ?_
  rintro e w' ⟨v, qs, rfl, h1, h2, h3, h4⟩
  have e1 := hl.pairs h.ti h1 h2
  subst e1
  obtain ⟨a, c, rfl, hv, _⟩ := ownsRow_vals h3
  exact ⟨a, c, by rw [hn], hv, h4⟩
set_option maxRecDepth 100000 in
set_option maxHeartbeats 8000000 in
theorem tscriptlaw (a : Option Addr) (len cap : Nat) (f : Nat → Op16) (w : World) (hl : len ≤ 9223372036854775807) (he : Ops w a len f) (hf : ∀ i, i < len → (Lit.int .i64 (f i).ky).wf = true) :
    Calls Try.prog 5 #[.slice a len cap] w fun e w' => e = .returned (.bool true) ∧ Below w.heap.size w w' := by
  have HE := Lib.hid he
  have HF := Lib.hid hf
  clear he hf
  go_enter Try.func5, Try.ntmps5
  go_wp2_with fail
  with_reducible refine (new_ob _).mono ?_
  rintro e w1 ⟨tb, T1, rfl, o1, n1, m1⟩
  have D0 := Lib.hid (duo_new o1)
  have LK0 := Lib.hid (show Like T1 [] from ⟨List.Pairwise.nil, fun x => ⟨fun h => (by cases h), fun h => absurd h (m1 _ _)⟩⟩)
  clear o1 n1 m1
  go_wp2_with fail
  obtain ⟨bm, hbm⟩ : ∃ bm, w1.heap.size = bm := ⟨_, rfl⟩
  rw [hbm] at D0 ⊢
  clear hbm
  go_loopg [5, 6, 7, 8, 9, 10, 11] len (fun gk iv _ _ _ _ _ _ wr => ∃ (j : Nat) (T : Tab) (L : List Pr), j ≤ len ∧ j ≤ 80 ∧ iv = .int .i64 j ∧ gk + j = len ∧ Duo w wr tb T bm L ∧ Like T L ∧ L.length ≤ j)
  case atStart => exact ⟨0, T1, [], by omega, by omega, rfl, by omega, D0.out, LK0.out, by simp⟩
  case round =>
    obtain ⟨j, T, L, hj, hj80, rfl, hgk, hd, hlk, hL⟩ := hrel
    have D := Lib.hid hd
    have LK := Lib.hid hlk
    have GK := Lib.hid hgk
    have htot : T.tot ≤ 1000000 := by rw [hlk.tot hd.ti]; omega
    clear hd hlk hgk D0 LK0
    by_cases hlt : j < len ∧ j < 80
    · obtain ⟨hlt, hlt80⟩ := hlt
      obtain ⟨b, off, rfl, hb, c0, c1, c2, c3, c4, c5, c6⟩ := (HE.out.below D.out.bel).at j hlt
      have hltI : (j : Int) < len := by omega
      have HK := HF.out j hlt
      have NM := Lib.hid (fun W => name12 (f j).ky W HK)
      clear HK
      go_wp2_with fail
      with_reducible refine (NM.out _).mono ?_
      rintro e w2 ⟨rfl, hb2⟩
      have HX := Lib.hid (show OpBox w2 wr.heap.size (f j) from by
        refine (hb2.block _ (by simp)).trans ?_
        show (wr.heap.push _)[wr.heap.size]? = _
        simp)
      have HBW := Lib.hid (show Below wr.heap.size wr w2 from bel1 hb2)
      obtain ⟨k, hk⟩ : ∃ k, nameN (nameD (f j).ky) = k := ⟨_, rfl⟩
      have hks : k.size ≤ 9223372036854775807 := by rw [← hk, nameN_size]; omega
      rw [hk]
      clear c0 c1 c2 c3 c4 c5 c6 hb hb2 hk NM
      obtain ⟨x0, x1, x2, x3, x4, x5, x6⟩ := HX.out.cells
      have hxs := blk_lt HX.out
      go_upto_block 2 with fail
      go_cut [] (fun wx => ∃ T' L', Duo w wx tb T' bm L' ∧ Like T' L' ∧ L'.length ≤ j + 1)
      case first =>
        by_cases hk0 : (f j).kd = 0
        · have hk0b : ((f j).kd == 0) = true := by simp [hk0]
          clear hk0
          have SET := Lib.hid (duo_set tb bm T L k (f j).en w wr w2 D.out HBW.out hks htot)
          unfold entV at SET
          go_wp2_with fail
          with_reducible refine SET.out.mono ?_
          rintro e w3 ⟨rfl, T3, ⟨d3, kp⟩, s3⟩
          have D3 := Lib.hid d3
          have S3 := Lib.hid s3
          have HX3 := Lib.hid (HX.out.kept kp (Nat.le_refl _))
          clear d3 s3 kp x0 x1 x2 x3 x4 x5 x6 hxs
          obtain ⟨x0, x1, x2, x3, x4, x5, x6⟩ := HX3.out.cells
          have RSET := Lib.hid (duo_rset tb bm T3 L k (f j).en w w3 w3 D3.out (Below.refl _ _) (by omega))
          unfold entV at RSET
          go_wp2_with fail
          with_reducible refine RSET.out.mono ?_
          rintro e w4 ⟨rfl, L4, ⟨d4, _⟩, a4, m4, l4⟩
          have D4 := Lib.hid d4
          have LK4 := Lib.hid (LK.out.set S3.out a4 m4)
          have hl4 : L4.length ≤ j + 1 := by omega
          clear d4 a4 m4 x0 x1 x2 x3 x4 x5 x6
          go_wp2_with fail
          go_meet
          exact ⟨T3, L4, D4.out, LK4.out, hl4⟩
        · have hk0b : ((f j).kd == 0) = false := by simp [hk0]
          clear hk0
          by_cases hk1 : (f j).kd = 1
          · have hk1b : ((f j).kd == 1) = true := by simp [hk1]
            clear hk1
            have GET := Lib.hid (duo_get tb bm T L k w wr w2 D.out HBW.out hks)
            go_wp2_with fail
            with_reducible refine GET.out.mono ?_
            rintro e w3 ⟨bb, x, T3, rfl, ⟨d3, kp⟩, s3⟩
            have D3 := Lib.hid d3
            have S3 := Lib.hid s3
            have BX := Lib.hid (show Below w3.heap.size w3 (w3.alloc (.cells #[.int .i64 x.seq, .int .i64 x.off, .int .i64 x.len, .int .i64 x.exp, .bool x.hit] 27)) from (Below.refl _ _).alloc (Nat.le_refl _) _)
            have RGET := Lib.hid (duo_rget tb bm T3 L k w w3 _ D3.out BX.out (by omega))
            clear d3 s3 kp x0 x1 x2 x3 x4 x5 x6 hxs
            go_wp2_with fail
            with_reducible refine RGET.out.mono ?_
            rintro e w4 ⟨b2, y, rfl, r1, r0, hb4⟩
            obtain ⟨rfl, rfl⟩ := LK.out.same S3.out r1 r0
            have D4 := Lib.hid (D3.out.below (bel_trans BX.out hb4))
            have LK4 := Lib.hid (LK.out.get S3.out)
            have hxb : w4.heap[w3.heap.size]? = some (.cells #[.int .i64 x.seq, .int .i64 x.off, .int .i64 x.len, .int .i64 x.exp, .bool x.hit] 27 (0, 0)) := by
              refine (hb4.block _ (by simp)).trans ?_
              show (w3.heap.push _)[w3.heap.size]? = _
              simp
            have z0 := blk_cell (i := 0) hxb; have z1 := blk_cell (i := 1) hxb; have z2 := blk_cell (i := 2) hxb; have z3 := blk_cell (i := 3) hxb; have z4 := blk_cell (i := 4) hxb
            simp only [List.getElem?_toArray, List.getElem?_cons_zero, List.getElem?_cons_succ] at z0 z1 z2 z3 z4
            have hzs := blk_lt hxb
            have ne := neqEn x
            have DX := Lib.hid (D4.out.below ((Below.refl w4.heap.size w4).alloc (Nat.le_refl _) (.cells #[.int .i64 x.seq, .int .i64 x.off, .int .i64 x.len, .int .i64 x.exp, .bool x.hit] 27)))
            clear hb4 r1 r0 hxb
            cases bb
            all_goals
              go_wp2_with fail
              go_meet
              exact ⟨T3, L, DX.out, LK4.out, by omega⟩
          · have hk1b : ((f j).kd == 1) = false := by simp [hk1]
            clear hk1
            have DEL := Lib.hid (duo_del tb bm T L k w wr w2 D.out HBW.out hks)
            go_wp2_with fail
            with_reducible refine DEL.out.mono ?_
            rintro e w3 ⟨bb, T3, rfl, ⟨d3, kp⟩, s3⟩
            have D3 := Lib.hid d3
            have S3 := Lib.hid s3
            have RDEL := Lib.hid (duo_rdel tb bm T3 L k w w3 w3 D3.out (Below.refl _ _) (by omega))
            clear d3 s3 kp x0 x1 x2 x3 x4 x5 x6 hxs
            go_wp2_with fail
            with_reducible refine RDEL.out.mono ?_
            rintro e w4 ⟨b2, L4, rfl, ⟨d4, _⟩, a4, m4, l4, hb⟩
            obtain rfl := LK.out.bdel S3.out hb
            have D4 := Lib.hid d4
            have LK4 := Lib.hid (LK.out.del S3.out a4 m4)
            have hl4 : L4.length ≤ j + 1 := by omega
            clear d4 a4 m4 hb
            cases bb
            all_goals
              go_wp2_with fail
              go_meet
              exact ⟨T3, L4, D4.out, LK4.out, hl4⟩
      case rest =>
        obtain ⟨T4, L4, d4, lk4, hl4⟩ := hcut
        have D4 := Lib.hid d4
        have LK4 := Lib.hid lk4
        have htt : T4.tot = L4.length := lk4.tot d4.ti
        obtain ⟨n, hn⟩ : ∃ n, L4.length = n := ⟨_, rfl⟩
        obtain ⟨al, cl, hblk, _⟩ := d4.list
        have c0 := blk_cell (i := 0) hblk
        simp only [List.getElem?_toArray, List.getElem?_cons_zero] at c0
        rw [hn] at c0 hl4 htt
        have HN := Lib.hid hn
        have hbmlt := blk_lt hblk
        rename_i wc _
        have LN := Lib.hid (fun (m : Nat) => show Calls Try.prog 15 #[.pointer (some ⟨tb, 0, none⟩)] (wc.drewN m) fun e' w' => e' = .returned (.int .i64 (n : Int)) ∧ ∃ q, w' = (wc.drewN m).drewN q from by
          rw [← htt]
          exact duo_len tb bm T4 L4 w (wc.drewN m) (D4.out.below (below_drewN (Below.refl _ _) m)))
        clear d4 lk4 htt hn hblk x0 x1 x2 x3 x4 x5 x6 hxs
        go_wp2_with fail
        go_quiet ((go_at_call 15; exact Calls.quiet_of (LN.out _)))
        go_wp2_with fail
        go_roundg (len - (j + 1))
        case measure => have := GK.out; omega
        case rel => exact ⟨j + 1, T4, L4, by omega, by omega, by go_num, by omega, D4.out.below (below_drewN (Below.refl _ _) _), LK4.out, by have := HN.out; omega⟩
    · obtain ⟨n, hn⟩ : ∃ n, L.length = n := ⟨_, rfl⟩
      obtain ⟨al, cl, hblk, hvl⟩ := D.out.list
      have c0 := blk_cell (i := 0) hblk
      simp only [List.getElem?_toArray, List.getElem?_cons_zero] at c0
      rw [hn] at c0 hL
      have HN := Lib.hid hn
      have hbmlt := blk_lt hblk
      have HVL := Lib.hid hvl
      have hn30 : n ≤ 1073741824 := by omega
      have CP := Lib.hid (fun (W : World) (hW : Below wr.heap.size wr W) => pairs_like tb bm T L w wr W D.out LK.out hW n HN.out)
      clear hn hblk hvl
      by_cases hkl : j < len
      all_goals
        have hex : ¬ (j < len ∧ j < 80) := hlt
        first
          | (have h50 : 80 ≤ j := by omega)
          | (have h50 : len ≤ j := by omega)
        clear hlt hex
        go_wp2_with fail
        go_region_held3 (fun w' => (∀ b o, b < wr.heap.size → w'.cell? ⟨b, o, none⟩ = wr.cell? ⟨b, o, none⟩) ∧ Below wr.heap.size wr w')
          (first | exact ⟨fun _ _ _ => rfl, (Below.refl _ _).drew⟩ | exact keepS (n := wr.heap.size) (by assumption) (by simp) hb5 | exact keepS (n := wr.heap.size) (by assumption) (by simp) hb4 | exact keepS (n := wr.heap.size) (by assumption) (by simp) hb3)
          (first
            | (go_at_call 11; (with_reducible refine (awake11 _).mono ?_); rintro e w3 ⟨rfl, hb3⟩)
            | (go_at_call 21; (with_reducible refine (CP.out _ ?_).mono ?_); (exact (by assumption : _ ∧ _).2); rintro e w4 ⟨a4, c4, rfl, hv4, hb4⟩)
            | (go_at_call 20; (with_reducible refine (eq20 _ _ _ _ n L _ HN.out hn30 hv4 (HVL.out.below (by assumption : _ ∧ _).2 (Nat.le_refl _))).mono ?_); rintro e w5 ⟨rfl, hb5⟩))
        all_goals
          have hfin := Lib.hid (show Below w.heap.size w w5 from bel_trans D.out.bel (by assumption : _ ∧ _).2)
          go_wp2_with fail
          go_ret
          exact ⟨rfl, hfin.out⟩
theorem walkTableScript (v0 : Value) (w : World) (base : Nat)
    (o0 : Value.okWide Try.prog w .any base 32 v0) (r0 : Reads Try.prog w 32 v0.cells.toList) :
    Calls Try.prog 5 #[v0] w fun e w' => e = .returned (.bool true) ∧ Below w.heap.size w w' := by
  obtain ⟨a, len, cap, f, rfl, h1, h2, h3, h4⟩ := arg_ops o0 r0
  exact tscriptlaw a len cap f w h1 h3 h4
set_option maxRecDepth 100000 in
theorem liftedTableScript (os : Os) (started : os.Started) (H : Type) (enc : TypeId × Value → H) :
    ReturnsInHanded {} Try.checked os 5 .any (Rows.tableScriptSpec.pre6 enc Try.prog Try.f5 Rows.tableScriptRow.domain false) (Rows.tableScriptSpec.post enc Try.prog Try.f5 false true false false) := by
  refine returnsInHanded_of_change (C := Try.checked) own started (by kernel_rfl) Try.func5
    (ChangeSpec.witness6 (enc := enc) (C := Try.checked) false ⟨#[], #[.slice none 0 0], []⟩ 8 (by kernel_rfl) (by kernel_rfl) (by kernel_rfl) (by kernel_rfl)) ?_
  intro W base args ds gs before hval0 hW hcnd _
  have hval : ∀ (j : Nat) t v, Try.f5.params[j]? = some t → args[j]? = some v → Value.okWide Try.prog W .any base t v := hval0
  have hW' := hW
  obtain ⟨p, q, hA0, hV, rfl, hfz, hnd⟩ := hW
  have hA : DataW.TrodAll enc Try.prog W 0 (fun _ => true) true Try.f5.params.toList args.toList ds p := hA0
  rw [Try.params5] at hA hval
  obtain ⟨v0, vs0, d0, ds0, p0, q0, hargs, rfl, rfl, h0, r0⟩ := trodAll_cons hA
  obtain ⟨rfl, rfl, rfl⟩ := trodAll_nil r0
  obtain rfl : args = #[v0] := by cases args; simp_all
  obtain ⟨rfl, rfl⟩ := trodVars_none hV
  have lt0 : ∀ x ∈ p0, x.block < W.heap.size := by obtain ⟨m, hm⟩ := h0; exact DataW.trod_lt m _ _ _ hm
  clear hA0 hval0
  refine (walkTableScript v0 W base (hval 0 32 v0 rfl rfl) (Reads.of h0)).mono fun e W' ⟨he, bel⟩ => ?_
  subst he
  exact ⟨_, rfl, _, _, _, [], _, [], hW', trodAll_mk1 (shut_bool Try.underlying4 _), (trodAll_cons_mk (Below.trod laidOut (by kernel_rfl) (of_decide_eq_true (by kernel_rfl)) h0 bel lt0) trodAll_mk0), rfl, bel.frame _, fun h => by cases h⟩

theorem overTableScript : Rows.tableScriptRow.holds Try.pinned (OpenSpec.ofChange Rows.tableScriptSpec) :=
  OpenClaim.holds_of_wide 5 Try.f5 rfl rfl rfl rfl rfl rfl rfl ⟨rfl, rfl, rfl, rfl, rfl⟩ rfl rfl rfl rfl rfl (by kernel_rfl) Try.func5 (by kernel_rfl)
    (of_decide_eq_true (by kernel_rfl)) (by unfold Func.isWrapper; first | (rw [if_pos (by decide +kernel)]; kernel_rfl) | (rw [if_neg (by decide +kernel)]; exact ⟨rfl, rfl⟩))
    (fun os started H enc _ => liftedTableScript os started H enc)

/-- The statement. -/
theorem tableScript_holds : Rows.TableScriptSaid := overTableScript
#print axioms tableScript_holds
