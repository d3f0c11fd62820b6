/-
  ReplayMap: whatever the batches that come in and whatever the time, the program's Map and the reference's give the same pairs, so the law returns true; the input reads behind the call as it did. No conditions.
-/
import Derived.Test.YtbfkhghegkiifaaRpRead
import Derived.Test.YtbfkhghegkiifaaRpAwake
import Derived.Test.YtbfkhghegkiifaaRpRef
import Derived.Test.YtbfkhghegkiifaaEqT
namespace Go.Proofs.Ytbfkhghegkiifaa
open Go.RowKit Go.WideShapes Go.ChangeShapes
set_option linter.unusedVariables false
theorem own_valsP {w : World} {base : Nat} {v : Value} {q : List Pr} (h : w.ownsRow base 38 6 v q.length (pairsC q)) : ∃ a cap, v = .slice a q.length cap ∧ Vals w a (pairsC q) := by
  obtain ⟨a, cap, h1, h2, _⟩ := ownsRow_vals h
  exact ⟨a, cap, h1, h2⟩
set_option maxRecDepth 100000 in
set_option maxHeartbeats 4000000 in
theorem maplaw (a : Option Addr) (len cap : Nat) (now : Int) (w : World) (hlen : len ≤ 9223372036854775807) (hin : RawBts w a len) :
    Calls Try.prog 3 #[.slice a len cap, .int .i64 now] w fun e w' => e = .returned (.bool true) ∧ Below w.heap.size w w' := by
  have SH := Lib.hid (short7 a len cap w hlen hin)
  clear hin
  go_enter Try.func3, Try.ntmps3
  go_wp2_with fail
  with_reducible refine SH.out.mono ?_
  rintro e w1 ⟨va, vb, bs, rfl, hl5, du⟩
  obtain ⟨aa, ca, rfl, ia, -⟩ := du.inA
  obtain ⟨ab, cb, rfl, ib⟩ := du.inB
  have IA := Lib.hid ia
  have IB := Lib.hid ib
  have B1 := Lib.hid du.bel
  clear SH du ia ib
  obtain ⟨n, hn⟩ : ∃ n, bs.length = n := ⟨_, rfl⟩
  rw [hn] at hl5 ⊢
  have HN := Lib.hid hn
  clear hn
  go_wp2_with fail
  with_reducible refine (awake8 _).mono ?_
  rintro e w2 ⟨rfl, b2⟩
  have A2 := Lib.hid (IA.out.below b2)
  have I2 := Lib.hid (IB.out.below b2)
  have B2 := Lib.hid (bel_trans B1.out b2)
  clear b2 IA IB B1
  go_wp2_with fail
  with_reducible refine (rmap10 aa n ca bs now _ HN.out (by omega) A2.out).mono ?_
  rintro e w3 ⟨v, q, rfl, hm, hq, hown, b3⟩
  obtain ⟨a3, c3, rfl, hv⟩ := own_valsP hown
  have V3 := Lib.hid hv
  have M3 := Lib.hid hm
  have I3 := Lib.hid (I2.out.below b3)
  have B3 := Lib.hid (bel_trans B2.out b3)
  clear hv hm hown b3 A2 I2 B2
  go_wp2_with fail
  with_reducible refine (rrmap11 ab n cb bs now _ HN.out (by omega) I3.out).mono ?_
  rintro e w4 ⟨a4, c4, q4, rfl, hm4, hq4, hv4, b4⟩
  obtain rfl := M3.out.eq hm4
  have V4 := Lib.hid hv4
  have V34 := Lib.hid (V3.out.below b4 (Nat.le_refl _))
  have B4 := Lib.hid (bel_trans B3.out b4)
  clear hm4 hv4 b4 B3 V3 M3 I3
  obtain ⟨m, hmq⟩ : ∃ m, q.length = m := ⟨_, rfl⟩
  rw [hmq] at hq ⊢
  have HM := Lib.hid hmq
  clear hmq
  go_wp2_with fail
  with_reducible refine (eq20 a3 a4 c3 c4 m q _ HM.out (by omega) V34.out V4.out).mono ?_
  rintro e w5 ⟨rfl, b5⟩
  have B5 := Lib.hid (bel_trans B4.out b5)
  clear b5
  go_wp2_with fail
  go_ret
  exact ⟨rfl, B5.out⟩
set_option maxRecDepth 100000 in
theorem walkReplayMap (v0 v1 : Value) (w : World) (base : Nat)
    (o0 : Value.okWide Try.prog w .any base 22 v0) (r0 : Reads Try.prog w 22 v0.cells.toList)
    (o1 : Value.okWide Try.prog w .any base 3 v1) (r1 : Reads Try.prog w 3 v1.cells.toList) :
    Calls Try.prog 3 #[v0, v1] w fun e w' => e = .returned (.bool true) ∧ Below w.heap.size w w' := by
  obtain ⟨a, len, cap, rfl, h1, h2⟩ := arg_batches o0 r0
  obtain ⟨now, rfl, _⟩ := arg_int Try.underlying3 o1 r1
  exact maplaw a len cap now w h1 h2
set_option maxRecDepth 100000 in
theorem liftedReplayMap (os : Os) (started : os.Started) (H : Type) (enc : TypeId × Value → H) :
    ReturnsInHanded {} Try.checked os 3 .any (Rows.replayMapSpec.pre6 enc Try.prog Try.f3 Rows.replayMapRow.domain false) (Rows.replayMapSpec.post enc Try.prog Try.f3 false true false false) := by
  refine returnsInHanded_of_change (C := Try.checked) own started (by kernel_rfl) Try.func3
    (ChangeSpec.witness6 (enc := enc) (C := Try.checked) false ⟨#[], #[.slice none 0 0, .int .i64 0], []⟩ 8 (by kernel_rfl) (by kernel_rfl) (by kernel_rfl) (by kernel_rfl)) ?_
  intro W base args ds gs before hval0 hW hcnd _
  have hval : ∀ (j : Nat) t v, Try.f3.params[j]? = some t → args[j]? = some v → Value.okWide Try.prog W .any base t v := hval0
  have hW' := hW
  obtain ⟨p, q, hA0, hV, rfl, hfz, hnd⟩ := hW
  have hA : DataW.TrodAll enc Try.prog W 0 (fun _ => true) true Try.f3.params.toList args.toList ds p := hA0
  rw [Try.params3] at hA hval
  obtain ⟨v0, vs0, d0, ds0, p0, q0, hargs, rfl, rfl, h0, r0⟩ := trodAll_cons hA
  obtain ⟨v1, vs1, d1, ds1, p1, q1, rfl, rfl, rfl, h1, r1⟩ := trodAll_cons r0
  obtain ⟨rfl, rfl, rfl⟩ := trodAll_nil r1
  obtain rfl : args = #[v0, v1] := by cases args; simp_all
  obtain ⟨rfl, rfl⟩ := trodVars_none hV
  have lt0 : ∀ x ∈ p0, x.block < W.heap.size := by obtain ⟨m, hm⟩ := h0; exact DataW.trod_lt m _ _ _ hm
  have lt1 : ∀ x ∈ p1, x.block < W.heap.size := by obtain ⟨m, hm⟩ := h1; exact DataW.trod_lt m _ _ _ hm
  clear hA0 hval0
  refine (walkReplayMap v0 v1 W base (hval 0 22 v0 rfl rfl) (Reads.of h0) (hval 1 3 v1 rfl rfl) (Reads.of h1)).mono fun e W' ⟨he, bel⟩ => ?_
  subst he
  exact ⟨_, rfl, _, _, _, [], _, [], hW', trodAll_mk1 (shut_bool Try.underlying4 _), (trodAll_cons_mk (Below.trod laidOut (by kernel_rfl) (of_decide_eq_true (by kernel_rfl)) h0 bel lt0) (trodAll_cons_mk (Below.trod laidOut (by kernel_rfl) (of_decide_eq_true (by kernel_rfl)) h1 bel lt1) trodAll_mk0)), rfl, bel.frame _, fun h => by cases h⟩

theorem overReplayMap : Rows.replayMapRow.holds Try.pinned (OpenSpec.ofChange Rows.replayMapSpec) :=
  OpenClaim.holds_of_wide 3 Try.f3 rfl rfl rfl rfl rfl rfl rfl ⟨rfl, rfl, rfl, rfl, rfl⟩ rfl rfl rfl rfl rfl (by kernel_rfl) Try.func3 (by kernel_rfl)
    (of_decide_eq_true (by kernel_rfl)) (by unfold Func.isWrapper; first | (rw [if_pos (by decide +kernel)]; kernel_rfl) | (rw [if_neg (by decide +kernel)]; exact ⟨rfl, rfl⟩))
    (fun os started H enc _ => liftedReplayMap os started H enc)

/-- The statement. -/
theorem replayMap_holds : Rows.ReplayMapSaid := overReplayMap
#print axioms replayMap_holds
end Go.Proofs.Ytbfkhghegkiifaa
