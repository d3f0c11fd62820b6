/-
  ReplayLater: whatever the batches that come in, a later time only takes away the pairs whose expiry has come, so the law returns true; the input reads behind the call as it did. No conditions.
-/
import Derived.Test.YtbfkhghegkiifaaRpLaw
namespace Go.Proofs.Ytbfkhghegkiifaa
open Go.RowKit Go.WideShapes Go.ChangeShapes
set_option linter.unusedVariables false
set_option maxRecDepth 100000 in
set_option maxHeartbeats 8000000 in
theorem laterlaw (a : Option Addr) (len cap : Nat) (now more : Int) (w : World) (hlen : len ≤ 9223372036854775807) (hin : RawBts w a len) :
    Calls Try.prog 5 #[.slice a len cap, .int .i64 now, .int .i64 more] w fun e w' => e = .returned (.bool true) ∧ Below w.heap.size w w' := by
  have SH := Lib.hid (short7 a len cap w hlen hin)
  clear hin
  go_enter Try.func5, Try.ntmps5
  go_wp2_with fail
  with_reducible refine SH.out.mono ?_
  rintro e w1 ⟨va, vb, bs, rfl, hl5, du⟩
  obtain ⟨aa, ca, rfl, ia, -⟩ := du.inA
  have A1 := Lib.hid ia
  have B1 := Lib.hid du.bel
  clear SH du ia
  obtain ⟨n, hn⟩ : ∃ n, bs.length = n := ⟨_, rfl⟩
  rw [hn] at hl5 ⊢
  have HN := Lib.hid hn
  clear hn
  by_cases a1 : now < 0
  · have t1 : decide (now < 0) = true := by simp [a1]
    clear A1
    go_wp2_with fail
    with_reducible refine (awake8 _).mono ?_
    rintro e w2 ⟨rfl, b2⟩
    have B2 := Lib.hid (bel_trans B1.out b2)
    clear b2 B1
    go_wp2_with fail
    go_ret
    exact ⟨rfl, B2.out⟩
  have t1 : decide (now < 0) = false := by simp; omega
  by_cases a2 : 549755813888 < now
  · have t2 : decide ((549755813888 : Int) < now) = true := by simp [a2]
    clear A1
    go_wp2_with fail
    with_reducible refine (awake8 _).mono ?_
    rintro e w2 ⟨rfl, b2⟩
    have B2 := Lib.hid (bel_trans B1.out b2)
    clear b2 B1
    go_wp2_with fail
    go_ret
    exact ⟨rfl, B2.out⟩
  have t2 : decide ((549755813888 : Int) < now) = false := by simp; omega
  by_cases a3 : more < 0
  · have t3 : decide (more < 0) = true := by simp [a3]
    clear A1
    go_wp2_with fail
    with_reducible refine (awake8 _).mono ?_
    rintro e w2 ⟨rfl, b2⟩
    have B2 := Lib.hid (bel_trans B1.out b2)
    clear b2 B1
    go_wp2_with fail
    go_ret
    exact ⟨rfl, B2.out⟩
  have t3 : decide (more < 0) = false := by simp; omega
  by_cases a4 : 549755813888 < more
  · have t4 : decide ((549755813888 : Int) < more) = true := by simp [a4]
    clear A1
    go_wp2_with fail
    with_reducible refine (awake8 _).mono ?_
    rintro e w2 ⟨rfl, b2⟩
    have B2 := Lib.hid (bel_trans B1.out b2)
    clear b2 B1
    go_wp2_with fail
    go_ret
    exact ⟨rfl, B2.out⟩
  have t4 : decide ((549755813888 : Int) < more) = false := by simp; omega
  have n1 : 0 ≤ now := by omega
  have n2 : now ≤ 549755813888 := by omega
  have n3 : 0 ≤ more := by omega
  have n4 : more ≤ 549755813888 := by omega
  clear a1 a2 a3 a4
  obtain ⟨i0, hz, hz0, hz1, hz2⟩ := info_parts prinfo
  have I1 := Lib.hid hz; have I2 := Lib.hid hz0; have I3 := Lib.hid hz1; have I4 := Lib.hid hz2
  clear hz hz0 hz1 hz2
  go_wp2_with fail
  with_reducible refine (rmap10 aa n ca bs now _ HN.out (by omega) A1.out).mono ?_
  rintro e w2 ⟨v, qs, rfl, hm, hq, hown, b2⟩
  obtain ⟨a3, c3, rfl, hv⟩ := own_valsQ hown
  have HV := Lib.hid hv
  have HM := Lib.hid hm
  have A2 := Lib.hid (A1.out.below b2)
  have B2 := Lib.hid (bel_trans B1.out b2)
  clear hv hm hown b2 A1 B1
  obtain ⟨m, hmq⟩ : ∃ m, qs.length = m := ⟨_, rfl⟩
  rw [hmq] at hq ⊢
  have HQ := Lib.hid hmq
  clear hmq
  clear t1 t2 t3 t4
  go_wp2_with fail
  go_loopg [9, 11, 36] m (fun gk ov _ kv wr => ∃ (k : Nat) (v : Value), k ≤ m ∧ v = ov ∧ kv = .int .i64 k ∧ gk + k = m ∧ OuR w2 wr v ((qs.take k).filter (fun x => liveE (now + more) x.en)))
  case atStart => exact ⟨0, _, by omega, rfl, rfl, by omega, ⟨Below.refl _ _, own_nil _ _ _ _⟩⟩
  case round =>
    obtain ⟨k, v, hk, rfl, rfl, hgk, ou⟩ := hrel
    have GK := Lib.hid hgk
    have OU := Lib.hid ou
    clear hgk ou
    by_cases hlt2 : k < m
    · obtain ⟨x, hx⟩ : ∃ x, qs[k]? = some x := ⟨_, List.getElem?_eq_getElem (by have := HQ.out; omega)⟩
      obtain ⟨g, off, hab, hg, q0, q1, q2, q3, q4, q5⟩ := (HV.out.below OU.out.bel (Nat.le_refl _)).pair k x hx
      subst hab
      have hkk : (k : Int) < m := by omega
      have TS := Lib.hid (take_snoc qs k x hx)
      obtain ⟨r, hr⟩ : ∃ r, ((qs.take k).filter (fun x => liveE (now + more) x.en)).length = r := ⟨_, rfl⟩
      have hrk : r ≤ k := by rw [← hr]; exact filt_len _ _ _
      have HR := Lib.hid hr
      have OU2 := Lib.hid (OU.out.alloc (.cells #[.string x.key, .int .i64 x.en.seq, .int .i64 x.en.off, .int .i64 x.en.len, .int .i64 x.en.exp, .bool x.en.hit] 38))
      have OWH := Lib.hid (show (wr.alloc (.cells #[.string x.key, .int .i64 x.en.seq, .int .i64 x.en.off, .int .i64 x.en.len, .int .i64 x.en.exp, .bool x.en.hit] 38)).ownsRow w2.heap.size 38 6 v r (pairsC ((qs.take k).filter (fun x => liveE (now + more) x.en))) from by
        have := OU2.out.own
        rw [HR.out] at this
        exact this)
      clear hx hr
      have YES := Lib.hid (fun (hl : liveE (now + more) x.en = true) => (filt_yes (P := fun x => liveE (now + more) x.en) TS.out hl))
      have NO := Lib.hid (fun (hl : liveE (now + more) x.en = false) => (filt_no (P := fun x => liveE (now + more) x.en) TS.out hl))
      by_cases h0 : x.en.exp = 0
      · have t0 : (x.en.exp == 0) = true := by rw [h0]; rfl
        have FL := Lib.hid (YES.out (by unfold liveE; simp [h0]))
        clear h0
        go_wp2_with (at_builtin; refine Stop.out ?_)
        refine Stop.of (wpList_app rfl _ _ 28 rfl w2.heap.size 38 i0 (.agg #[.string ByteArray.empty, .int .i64 0, .int .i64 0, .int .i64 0, .int .i64 0, .bool false]) 6 56 Try.underlying28 I1.out I2.out I3.out I4.out rfl (by decide) v r (pairsC ((qs.take k).filter (fun x => liveE (now + more) x.en))) rfl (OWH.out.alloc _) _ 1 [.string x.key, .int .i64 x.en.seq, .int .i64 x.en.off, .int .i64 x.en.len, .int .i64 x.en.exp, .bool x.en.hit] rfl (src_lit #[.string x.key, .int .i64 x.en.seq, .int .i64 x.en.off, .int .i64 x.en.len, .int .i64 x.en.exp, .bool x.en.hit] (0, 0) (heap_two _ _ _) rfl) (one6 x.key x.en) (by unfold maxLen; omega) (by omega) (by have := OU2.out.bel.size; simp at this ⊢; omega) ?_)
        intro v2 w3 hown3 hg3
        have O3 := Lib.hid (OU2.out.app (x := x) (by rw [HR.out]; exact hown3) hg3)
        clear hown3 hg3 q0 q1 q2 q3 q4 q5 hg
        go_wp2_with fail
        go_roundg (m - (k + 1))
        case measure => have := GK.out; omega
        case rel => exact ⟨k + 1, _, by omega, rfl, by go_num, by omega, by rw [FL.out]; exact O3.out⟩
      · have t0 : (x.en.exp == 0) = false := by simp [h0]
        by_cases h1 : now + more < x.en.exp
        · have t1 : decide (now + more < x.en.exp) = true := by simp [h1]
          have FL := Lib.hid (YES.out (by unfold liveE; simp [h1]))
          clear h0 h1
          go_wp2_with (at_builtin; refine Stop.out ?_)
          refine Stop.of (wpList_app rfl _ _ 28 rfl w2.heap.size 38 i0 (.agg #[.string ByteArray.empty, .int .i64 0, .int .i64 0, .int .i64 0, .int .i64 0, .bool false]) 6 56 Try.underlying28 I1.out I2.out I3.out I4.out rfl (by decide) v r (pairsC ((qs.take k).filter (fun x => liveE (now + more) x.en))) rfl (OWH.out.alloc _) _ 1 [.string x.key, .int .i64 x.en.seq, .int .i64 x.en.off, .int .i64 x.en.len, .int .i64 x.en.exp, .bool x.en.hit] rfl (src_lit #[.string x.key, .int .i64 x.en.seq, .int .i64 x.en.off, .int .i64 x.en.len, .int .i64 x.en.exp, .bool x.en.hit] (0, 0) (heap_two _ _ _) rfl) (one6 x.key x.en) (by unfold maxLen; omega) (by omega) (by have := OU2.out.bel.size; simp at this ⊢; omega) ?_)
          intro v2 w3 hown3 hg3
          have O3 := Lib.hid (OU2.out.app (x := x) (by rw [HR.out]; exact hown3) hg3)
          clear hown3 hg3 q0 q1 q2 q3 q4 q5 hg
          go_wp2_with fail
          go_roundg (m - (k + 1))
          case measure => have := GK.out; omega
          case rel => exact ⟨k + 1, _, by omega, rfl, by go_num, by omega, by rw [FL.out]; exact O3.out⟩
        · have t1 : decide (now + more < x.en.exp) = false := by simp; omega
          have FL := Lib.hid (NO.out (by unfold liveE; simp [h0, h1]))
          clear h0 h1
          go_wp2_with fail
          go_roundg (m - (k + 1))
          case measure => have := GK.out; omega
          case rel => exact ⟨k + 1, _, by omega, rfl, by go_num, by omega, by rw [FL.out]; exact OU2.out⟩
    · obtain rfl : m = k := by omega
      have hl : qs.take m = qs := List.take_of_length_le (by have := HQ.out; omega)
      have O2 := Lib.hid (show OuR w2 wr v (qs.filter (fun x => liveE (now + more) x.en)) from by have := OU.out; rw [hl] at this; exact this)
      clear hl
      have A3 := Lib.hid (A2.out.below O2.out.bel)
      have B3 := Lib.hid (bel_trans B2.out O2.out.bel)
      obtain ⟨a4, c4, rfl, hv4⟩ := own_valsQ O2.out.own
      have V4 := Lib.hid hv4
      clear hv4 A2 B2
      go_wp2_with fail
      with_reducible refine (awake8 _).mono ?_
      rintro e w4 ⟨rfl, b4⟩
      have V5 := Lib.hid (V4.out.below b4 (Nat.le_refl _))
      have A4 := Lib.hid (A3.out.below b4)
      have B4 := Lib.hid (bel_trans B3.out b4)
      clear b4 A3 B3 V4
      go_wp2_with fail
      with_reducible refine (rmap10 aa n ca bs (now + more) _ HN.out (by omega) A4.out).mono ?_
      rintro e w5 ⟨v, q2, rfl, hm5, hq5, hown5, b5⟩
      obtain rfl := later_law (by omega) HM.out hm5
      obtain ⟨a5, c5, rfl, hv5⟩ := own_valsQ hown5
      have V6 := Lib.hid hv5
      have V7 := Lib.hid (V5.out.below b5 (Nat.le_refl _))
      have B5 := Lib.hid (bel_trans B4.out b5)
      clear b5 hm5 hown5 hv5 B4 V5 A4 HM
      obtain ⟨ql, hql⟩ : ∃ ql, (qs.filter (fun x => liveE (now + more) x.en)).length = ql := ⟨_, rfl⟩
      rw [hql] at hq5 ⊢
      have HL := Lib.hid hql
      clear hql
      go_wp2_with fail
      with_reducible refine (eq20 a5 a4 c5 c4 ql _ _ HL.out (by omega) V6.out V7.out).mono ?_
      rintro e w6 ⟨rfl, b6⟩
      have B6 := Lib.hid (bel_trans B5.out b6)
      clear b6
      go_wp2_with fail
      go_ret
      exact ⟨rfl, B6.out⟩
set_option maxRecDepth 100000 in
theorem walkReplayLater (v0 v1 v2 : Value) (w : World) (base : Nat)
    (o0 : Value.okWide Try.prog w .any base 22 v0) (r0 : Reads Try.prog w 22 v0.cells.toList)
    (o1 : Value.okWide Try.prog w .any base 3 v1) (r1 : Reads Try.prog w 3 v1.cells.toList)
    (o2 : Value.okWide Try.prog w .any base 3 v2) (r2 : Reads Try.prog w 3 v2.cells.toList) :
    Calls Try.prog 5 #[v0, v1, v2] w fun e w' => e = .returned (.bool true) ∧ Below w.heap.size w w' := by
  obtain ⟨a, len, cap, rfl, h1, h2⟩ := arg_batches o0 r0
  obtain ⟨now, rfl, _⟩ := arg_int Try.underlying3 o1 r1
  obtain ⟨more, rfl, _⟩ := arg_int Try.underlying3 o2 r2
  exact laterlaw a len cap now more w h1 h2
set_option maxRecDepth 100000 in
theorem liftedReplayLater (os : Os) (started : os.Started) (H : Type) (enc : TypeId × Value → H) :
    ReturnsInHanded {} Try.checked os 5 .any (Rows.replayLaterSpec.pre6 enc Try.prog Try.f5 Rows.replayLaterRow.domain false) (Rows.replayLaterSpec.post enc Try.prog Try.f5 false true false false) := by
  refine returnsInHanded_of_change (C := Try.checked) own started (by kernel_rfl) Try.func5
    (ChangeSpec.witness6 (enc := enc) (C := Try.checked) false ⟨#[], #[.slice none 0 0, .int .i64 0, .int .i64 0], []⟩ 8 (by kernel_rfl) (by kernel_rfl) (by kernel_rfl) (by kernel_rfl)) ?_
  intro W base args ds gs before hval0 hW hcnd _
  have hval : ∀ (j : Nat) t v, Try.f5.params[j]? = some t → args[j]? = some v → Value.okWide Try.prog W .any base t v := hval0
  have hW' := hW
  obtain ⟨p, q, hA0, hV, rfl, hfz, hnd⟩ := hW
  have hA : DataW.TrodAll enc Try.prog W 0 (fun _ => true) true Try.f5.params.toList args.toList ds p := hA0
  rw [Try.params5] at hA hval
  obtain ⟨v0, vs0, d0, ds0, p0, q0, hargs, rfl, rfl, h0, r0⟩ := trodAll_cons hA
  obtain ⟨v1, vs1, d1, ds1, p1, q1, rfl, rfl, rfl, h1, r1⟩ := trodAll_cons r0
  obtain ⟨v2, vs2, d2, ds2, p2, q2, rfl, rfl, rfl, h2, r2⟩ := trodAll_cons r1
  obtain ⟨rfl, rfl, rfl⟩ := trodAll_nil r2
  obtain rfl : args = #[v0, v1, v2] := by cases args; simp_all
  obtain ⟨rfl, rfl⟩ := trodVars_none hV
  have lt0 : ∀ x ∈ p0, x.block < W.heap.size := by obtain ⟨m, hm⟩ := h0; exact DataW.trod_lt m _ _ _ hm
  have lt1 : ∀ x ∈ p1, x.block < W.heap.size := by obtain ⟨m, hm⟩ := h1; exact DataW.trod_lt m _ _ _ hm
  have lt2 : ∀ x ∈ p2, x.block < W.heap.size := by obtain ⟨m, hm⟩ := h2; exact DataW.trod_lt m _ _ _ hm
  clear hA0 hval0
  refine (walkReplayLater v0 v1 v2 W base (hval 0 22 v0 rfl rfl) (Reads.of h0) (hval 1 3 v1 rfl rfl) (Reads.of h1) (hval 2 3 v2 rfl rfl) (Reads.of h2)).mono fun e W' ⟨he, bel⟩ => ?_
  subst he
  exact ⟨_, rfl, _, _, _, [], _, [], hW', trodAll_mk1 (shut_bool Try.underlying4 _), (trodAll_cons_mk (Below.trod laidOut (by kernel_rfl) (of_decide_eq_true (by kernel_rfl)) h0 bel lt0) (trodAll_cons_mk (Below.trod laidOut (by kernel_rfl) (of_decide_eq_true (by kernel_rfl)) h1 bel lt1) (trodAll_cons_mk (Below.trod laidOut (by kernel_rfl) (of_decide_eq_true (by kernel_rfl)) h2 bel lt2) trodAll_mk0))), rfl, bel.frame _, fun h => by cases h⟩

theorem overReplayLater : Rows.replayLaterRow.holds Try.pinned (OpenSpec.ofChange Rows.replayLaterSpec) :=
  OpenClaim.holds_of_wide 5 Try.f5 rfl rfl rfl rfl rfl rfl rfl ⟨rfl, rfl, rfl, rfl, rfl⟩ rfl rfl rfl rfl rfl (by kernel_rfl) Try.func5 (by kernel_rfl)
    (of_decide_eq_true (by kernel_rfl)) (by unfold Func.isWrapper; first | (rw [if_pos (by decide +kernel)]; kernel_rfl) | (rw [if_neg (by decide +kernel)]; exact ⟨rfl, rfl⟩))
    (fun os started H enc _ => liftedReplayLater os started H enc)

/-- The statement. -/
theorem replayLater_holds : Rows.ReplayLaterSaid := overReplayLater
#print axioms replayLater_holds
end Go.Proofs.Ytbfkhghegkiifaa
