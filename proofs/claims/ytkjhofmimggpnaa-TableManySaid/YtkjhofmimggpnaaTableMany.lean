/-
  TableMany: n different keys can be set, found, and deleted again in any order. No condition.
-/
import Derived.Test.YtkjhofmimggpnaaManyPlain
import Derived.Test.YtkjhofmimggpnaaTabNil
import Derived.Test.YtkjhofmimggpnaaTabRead
import Derived.Deep.CutBlock
import Derived.Deep.RegionHeld3
namespace Go.Proofs.Ytkjhofmimggpnaa
open Go.RowKit Go.Maps Go.ChangeShapes Go.WideShapes Go.ChangeAt
set_option linter.unusedVariables false
theorem len_obb (tb : Nat) (T : Tab) (w0 w : World) (h : Tob w0 w tb T) :
    Calls Try.prog 15 #[.pointer (some ⟨tb, 0, none⟩)] w fun e' w' => e' = .returned (.int .i64 (T.tot : Int)) ∧ Below w.heap.size w w' := by
  refine (len_ob tb T w0 w h).mono ?_
  rintro e' w' ⟨rfl, m, rfl⟩
  exact ⟨rfl, below_drewN (Below.refl _ _) m⟩
theorem pairs_obl (tb : Nat) (T : Tab) (w0 w : World) (h : Tob w0 w tb T) :
    Calls Try.prog 21 #[.pointer (some ⟨tb, 0, none⟩)] w fun e w' => ∃ a c, e = .returned (.slice a T.tot c) ∧ Below w.heap.size w w' := by
  obtain ⟨vn, vo, t, ti, hn, hb⟩ := h
  refine (pairs21 tb vn vo T w t ti).mono ?_
  rintro e w' ⟨v, qs, rfl, h1, h2, h3, h4⟩
  obtain ⟨a, c, rfl, hv, _, _, _, h5, h6⟩ := ownsRow_vals h3
  have h7 := h2.length_eq
  have h8 := prs_length ti
  refine ⟨a, c, ?_, h4⟩
  have : qs.length = T.tot := by unfold Tab.tot; omega
  rw [this]
theorem name_self (i : Nat) (hi : i < 200) (w : World) : Calls Try.prog 12 #[.int .i64 (i : Int)] w fun e w' => e = .returned (.string (nameN i)) ∧ Below w.heap.size w w' := by
  have h := name12 (i : Int) w (by
    have h1 : IntKind.min .i64 = -9223372036854775808 := by decide
    have h2 : IntKind.max .i64 = 9223372036854775807 := by decide
    simp only [Lit.wf, Bool.and_eq_true, decide_eq_true_eq]
    omega)
  rw [nameD_self i (by omega)] at h
  exact h
set_option maxRecDepth 100000 in
set_option maxHeartbeats 8000000 in
theorem manylaw (n0 f0 : Int) (w : World) (hn0 : (Lit.int .i64 n0).wf = true) (hf0 : (Lit.int .i64 f0).wf = true) :
    Calls Try.prog 7 #[.int .i64 n0, .int .i64 f0] w fun e w' => e = .returned (.bool true) ∧ Below w.heap.size w w' := by
  have hx1 := Int.tmod_lt_of_pos n0 (show (0 : Int) < 200 by omega)
  have hx0 := Int.lt_tmod_of_pos n0 (show (0 : Int) < 200 by omega)
  have hy1 := Int.tmod_lt_of_pos f0 (show (0 : Int) < 200 by omega)
  have hy0 := Int.lt_tmod_of_pos f0 (show (0 : Int) < 200 by omega)
  obtain ⟨n, hn⟩ : ∃ n : Nat, n0.tmod 200 % 200 = (n : Int) := ⟨(n0.tmod 200 % 200).toNat, by omega⟩
  obtain ⟨fs, hfs⟩ : ∃ n : Nat, f0.tmod 200 % 200 = (n : Int) := ⟨(f0.tmod 200 % 200).toNat, by omega⟩
  have hn' : (n0.tmod 200 + 200) % 200 = (n : Int) := by omega
  have hfs' : (f0.tmod 200 + 200) % 200 = (fs : Int) := by omega
  have hn200 : n < 200 := by omega
  have hfs200 : fs < 200 := by omega
  go_enter Try.func7, Try.ntmps7
  go_wp2_with fail
  with_reducible refine (new_ob _).mono ?_
  rintro e w1 ⟨tb, T1, rfl, o1, n1, m1⟩
  have O1 := Lib.hid o1
  have M1 := Lib.hid (mk0 m1 n1)
  clear o1 m1
  go_wp2_with fail
  go_loopg [6] n (fun gk iv wr => ∃ (i : Nat) (T : Tab), i ≤ n ∧ iv = .int .i64 i ∧ gk + i = n ∧ Tob w wr tb T ∧ MkS T i)
  case atStart => exact ⟨0, T1, by omega, rfl, by omega, O1.out, M1.out⟩
  case round =>
    obtain ⟨i, T, hi, rfl, hgk, ot, ms⟩ := hrel
    have O := Lib.hid ot
    have M := Lib.hid ms
    have GK := Lib.hid hgk
    clear ot hgk ms O1 M1
    by_cases hlt : i < n
    · have hii : (i : Int) < n := by omega
      go_wp2_with fail
      with_reducible refine (name_self i (by omega) _).mono ?_
      rintro e w2 ⟨rfl, hb2⟩
      have O2 := Lib.hid (O.out.below hb2)
      have SET := Lib.hid (set_ob tb T (nameN i) (offE i) w w2 O2.out (by rw [nameN_size]; omega) (by have := M.out.tot; omega))
      unfold entV offE at SET
      clear hb2
      go_wp2_with fail
      with_reducible refine SET.out.mono ?_
      rintro e w3 ⟨rfl, T3, o3, s3⟩
      have O3 := Lib.hid o3
      have M3 := Lib.hid (mk1 (by omega) M.out s3)
      clear o3 s3
      go_wp2_with fail
      go_roundg (n - (i + 1))
      case measure => have := GK.out; omega
      case rel => exact ⟨i + 1, T3, by omega, by go_num, by omega, O3.out, M3.out⟩
    · obtain rfl : n = i := by omega
      have LN := Lib.hid (len_obb tb T w wr O.out)
      have htot : T.tot = n := M.out.tot
      rw [htot] at LN
      go_wp2_with fail
      with_reducible refine LN.out.mono ?_
      rintro e w2 ⟨rfl, hb2⟩
      have O2 := Lib.hid (O.out.below hb2)
      have PR := Lib.hid (pairs_obl tb T w w2 O2.out)
      rw [htot] at PR
      clear hb2 LN
      go_wp2_with fail
      with_reducible refine PR.out.mono ?_
      rintro e w3 ⟨pa, pc, rfl, hb3⟩
      have O3 := Lib.hid (O2.out.below hb3)
      have MD := Lib.hid (mkd0 (fs := fs) M.out)
      clear hb3 PR O O2 M GK
      go_wp2_with fail
      simp only [hfs']
      go_loopg [7, 8, 9, 10] n (fun gk iv _ _ _ wr => ∃ (i : Nat) (T : Tab), i ≤ n ∧ iv = .int .i64 i ∧ gk + i = n ∧ Tob w wr tb T ∧ Hid (n % 7 ≠ 0 → MkD T n fs i))
      case atStart => exact ⟨0, T, by omega, rfl, by omega, O3.out, Lib.hid (fun _ => MD.out)⟩
      case round =>
        obtain ⟨i, T', hi, rfl, hgk, ot, M⟩ := hrel
        have O := Lib.hid ot
        have GK := Lib.hid hgk
        clear ot hgk O3
        by_cases hlt2 : i < n
        · have hii2 : (i : Int) < n := by omega
          obtain ⟨wk, hwk⟩ : ∃ wk, walkN n fs i = wk := ⟨_, rfl⟩
          have hwkI : ((i : Int) * 7 + (fs : Int)) % (n : Int) = (wk : Int) := by
            rw [← hwk]
            unfold walkN
            rw [Int.natCast_emod]
            simp
          have hwn : wk < n := by rw [← hwk]; exact Nat.mod_lt _ (by omega)
          have HWK := Lib.hid hwk
          clear hwk
          go_wp2_with fail
          with_reducible refine (name_self wk (by omega) _).mono ?_
          rintro e w4 ⟨rfl, hb4⟩
          have O4 := Lib.hid (O.out.below hb4)
          have GET := Lib.hid (get_ob tb T' (nameN wk) w w4 O4.out (by rw [nameN_size]; omega))
          clear hb4
          go_wp2_with fail
          with_reducible refine GET.out.mono ?_
          rintro e w5 ⟨b, x, T5, rfl, o5, g5⟩
          have O5 := Lib.hid (o5.below ((Below.refl w5.heap.size w5).alloc (Nat.le_refl _) (.cells #[.int .i64 x.seq, .int .i64 x.off, .int .i64 x.len, .int .i64 x.exp, .bool x.hit] 27)))
          have G5 := Lib.hid g5
          clear o5 g5 GET
          by_cases h7 : n % 7 = 0
          · have h7i : (n : Int) % 7 = 0 := by omega
            have H7 := Lib.hid h7
            clear h7
            go_wp2_with fail
            go_roundg (n - (i + 1))
            case measure => have := GK.out; omega
            case rel => exact ⟨i + 1, T5, by omega, by go_num, by omega, O5.out, Lib.hid (fun h => absurd H7.out h)⟩
          · obtain ⟨rfl, hx, md5⟩ := mkd_get hn200 h7 hlt2 (by have := M.out h7; exact this) (by rw [HWK.out]; exact G5.out)
            have h7i : ¬ (n : Int) % 7 = 0 := by omega
            have M5 := Lib.hid md5
            have hxo : x.off = (wk : Int) := by rw [hx, HWK.out]; rfl
            rw [hxo] at O5
            clear hx
            have H7 := Lib.hid h7
            clear h7
            go_wp2_with fail
            generalize (World.alloc _ (.cells #[.int .i64 x.seq, .int .i64 (wk : Int), .int .i64 x.len, .int .i64 x.exp, .bool x.hit] 27)) = w6 at *
            with_reducible refine (name_self wk (by omega) _).mono ?_
            rintro e w7 ⟨rfl, hb7⟩
            have O7 := Lib.hid (O5.out.below hb7)
            have DEL := Lib.hid (del_ob tb T5 (nameN wk) w w7 O7.out (by rw [nameN_size]; omega))
            clear hb7
            go_wp2_with fail
            with_reducible refine DEL.out.mono ?_
            rintro e w8 ⟨b8, T8, rfl, o8, d8⟩
            have O8 := Lib.hid o8
            obtain ⟨rfl, md8⟩ := mkd_del hn200 H7.out hlt2 M5.out (by rw [HWK.out]; exact d8)
            have M8 := Lib.hid md8
            clear o8 d8 md8 md5
            go_wp2_with fail
            go_roundg (n - (i + 1))
            case measure => have := GK.out; omega
            case rel => exact ⟨i + 1, T8, by omega, by go_num, by omega, O8.out, Lib.hid (fun h => M8.out)⟩
        · obtain rfl : n = i := by omega
          clear GK MD
          have NS := Lib.hid (nil_set ⟨#[97]⟩ ent0 wr)
          unfold entV ent0 at NS
          go_wp2_with fail
          with_reducible refine NS.out.mono ?_
          rintro e w4 ⟨rfl, hb4⟩
          have O4 := Lib.hid (O.out.below hb4)
          clear hb4 NS
          go_wp2_with fail
          with_reducible refine (nil_get _ _).mono ?_
          rintro e w5 ⟨rfl, hb5⟩
          have O5 := Lib.hid ((O4.out.below hb5).below ((Below.refl w5.heap.size w5).alloc (Nat.le_refl _) (.cells #[.int .i64 0, .int .i64 0, .int .i64 0, .int .i64 0, .bool false] 27)))
          clear hb5
          unfold entV ent0
          go_wp2_with fail
          with_reducible refine (awake11 _).mono ?_
          rintro e w6 ⟨rfl, hb6⟩
          have O6 := Lib.hid (O5.out.below hb6)
          clear hb6
          by_cases h7 : n % 7 = 0
          · have h7i : (n : Int) % 7 = 0 := by omega
            clear M
            go_wp2_with fail
            with_reducible refine (nil_del _ _).mono ?_
            rintro e w8 ⟨rfl, rfl⟩
            go_wp2_with fail
            with_reducible refine (nil_len _).mono ?_
            rintro e w8 ⟨rfl, rfl⟩
            go_wp2_with fail
            with_reducible refine (nil_pairs _).mono ?_
            rintro e w8 ⟨rfl, rfl⟩
            go_wp2_with fail
            with_reducible refine (nil_places _).mono ?_
            rintro e w8 ⟨rfl, rfl⟩
            go_wp2_with fail
            with_reducible refine (nil_work _).mono ?_
            rintro e w8 ⟨rfl, rfl⟩
            go_wp2_with fail
            go_ret
            exact ⟨rfl, O6.out.bel⟩
          · have htot : T'.tot = 0 := by have := (M.out h7).tot; omega
            have LN := Lib.hid (len_obb tb T' w w6 O6.out)
            rw [htot] at LN
            have h7i : ¬ (n : Int) % 7 = 0 := by omega
            clear M h7 htot
            go_wp2_with fail
            with_reducible refine LN.out.mono ?_
            rintro e w7 ⟨rfl, hb7⟩
            have O7 := Lib.hid (O6.out.below hb7)
            clear hb7 LN
            go_wp2_with fail
            with_reducible refine (nil_del _ _).mono ?_
            rintro e w8 ⟨rfl, rfl⟩
            go_wp2_with fail
            with_reducible refine (nil_len _).mono ?_
            rintro e w8 ⟨rfl, rfl⟩
            go_wp2_with fail
            with_reducible refine (nil_pairs _).mono ?_
            rintro e w8 ⟨rfl, rfl⟩
            go_wp2_with fail
            with_reducible refine (nil_places _).mono ?_
            rintro e w8 ⟨rfl, rfl⟩
            go_wp2_with fail
            with_reducible refine (nil_work _).mono ?_
            rintro e w8 ⟨rfl, rfl⟩
            go_wp2_with fail
            go_ret
            exact ⟨rfl, O7.out.bel⟩
theorem walkTableMany (v0 v1 : Value) (w : World) (base : Nat)
    (o0 : Value.okWide Try.prog w .any base 3 v0) (r0 : Reads Try.prog w 3 v0.cells.toList)
    (o1 : Value.okWide Try.prog w .any base 3 v1) (r1 : Reads Try.prog w 3 v1.cells.toList) :
    Calls Try.prog 7 #[v0, v1] w fun e w' => e = .returned (.bool true) ∧ Below w.heap.size w w' := by
  obtain ⟨n0, rfl, h0⟩ := arg_int Try.underlying3 o0 r0
  obtain ⟨f0, rfl, h1⟩ := arg_int Try.underlying3 o1 r1
  exact manylaw n0 f0 w h0 h1
set_option maxRecDepth 100000 in
theorem liftedTableMany (os : Os) (started : os.Started) (H : Type) (enc : TypeId × Value → H) :
    ReturnsInHanded {} Try.checked os 7 .any (Rows.tableManySpec.pre6 enc Try.prog Try.f7 Rows.tableManyRow.domain false) (Rows.tableManySpec.post enc Try.prog Try.f7 false true false false) := by
  refine returnsInHanded_of_change (C := Try.checked) own started (by kernel_rfl) Try.func7
    (ChangeSpec.witness6 (enc := enc) (C := Try.checked) false ⟨#[], #[.int .i64 0, .int .i64 0], []⟩ 8 (by kernel_rfl) (by kernel_rfl) (by kernel_rfl) (by kernel_rfl)) ?_
  intro W base args ds gs before hval0 hW hcnd _
  have hval : ∀ (j : Nat) t v, Try.f7.params[j]? = some t → args[j]? = some v → Value.okWide Try.prog W .any base t v := hval0
  have hW' := hW
  obtain ⟨p, q, hA0, hV, rfl, hfz, hnd⟩ := hW
  have hA : DataW.TrodAll enc Try.prog W 0 (fun _ => true) true Try.f7.params.toList args.toList ds p := hA0
  rw [Try.params7] at hA hval
  obtain ⟨v0, vs0, d0, ds0, p0, q0, hargs, rfl, rfl, h0, r0⟩ := trodAll_cons hA
  obtain ⟨v1, vs1, d1, ds1, p1, q1, rfl, rfl, rfl, h1, r1⟩ := trodAll_cons r0
  obtain ⟨rfl, rfl, rfl⟩ := trodAll_nil r1
  obtain rfl : args = #[v0, v1] := by cases args; simp_all
  obtain ⟨rfl, rfl⟩ := trodVars_none hV
  have lt0 : ∀ x ∈ p0, x.block < W.heap.size := by obtain ⟨m, hm⟩ := h0; exact DataW.trod_lt m _ _ _ hm
  have lt1 : ∀ x ∈ p1, x.block < W.heap.size := by obtain ⟨m, hm⟩ := h1; exact DataW.trod_lt m _ _ _ hm
  clear hA0 hval0
  refine (walkTableMany v0 v1 W base (hval 0 3 v0 rfl rfl) (Reads.of h0) (hval 1 3 v1 rfl rfl) (Reads.of h1)).mono fun e W' ⟨he, bel⟩ => ?_
  subst he
  exact ⟨_, rfl, _, _, _, [], _, [], hW', trodAll_mk1 (shut_bool Try.underlying4 _), (trodAll_cons_mk (Below.trod laidOut (by kernel_rfl) (of_decide_eq_true (by kernel_rfl)) h0 bel lt0) (trodAll_cons_mk (Below.trod laidOut (by kernel_rfl) (of_decide_eq_true (by kernel_rfl)) h1 bel lt1) trodAll_mk0)), rfl, bel.frame _, fun h => by cases h⟩

theorem overTableMany : Rows.tableManyRow.holds Try.pinned (OpenSpec.ofChange Rows.tableManySpec) :=
  OpenClaim.holds_of_wide 7 Try.f7 rfl rfl rfl rfl rfl rfl rfl ⟨rfl, rfl, rfl, rfl, rfl⟩ rfl rfl rfl rfl rfl (by kernel_rfl) Try.func7 (by kernel_rfl)
    (of_decide_eq_true (by kernel_rfl)) (by unfold Func.isWrapper; first | (rw [if_pos (by decide +kernel)]; kernel_rfl) | (rw [if_neg (by decide +kernel)]; exact ⟨rfl, rfl⟩))
    (fun os started H enc _ => liftedTableMany os started H enc)

/-- The statement. -/
theorem tableMany_holds : Rows.TableManySaid := overTableMany
#print axioms tableMany_holds
