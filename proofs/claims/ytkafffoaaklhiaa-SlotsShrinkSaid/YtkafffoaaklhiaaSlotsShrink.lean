/-
  SlotsShrink: for a target with the same region size and fewer regions, the regions that stay are the youngest ones, at most Regions - 1, and no more than necessary go. No condition.
-/
import Derived.Test.YtkafffoaaklhiaaShrinkWalk
namespace Go.Proofs.Ytkafffoaaklhiaa
open Go.RowKit Go.Maps Go.ChangeShapes Go.WideShapes Go.ChangeAt
set_option linter.unusedVariables false
set_option maxHeartbeats 2000000 in
theorem shrink_no (id ver rs rg : Int) (a : Option Addr) (len cap : Nat) (more : Int) (w : World) (hf : formB ⟨id, ver, rs, rg⟩ = false) :
    Calls Try.prog 5 #[.agg #[.int .i64 id, .int .i64 ver, .int .i64 rs, .int .i64 rg], .slice a len cap, .int .i64 more] w fun e w' => e = .returned (.bool true) ∧ Below w.heap.size w w' := by
  have RF := fun W => refform12 id ver rs rg W
  rw [hf] at RF
  have RFH := Lib.hid RF
  clear RF hf
  go_enter Try.func5, Try.ntmps5
  go_wp2_with fail
  with_reducible refine (RFH.out _).mono ?_
  rintro e w1 ⟨rfl, hb1⟩
  have B1 := Lib.hid (show Below w.heap.size w w1 from bel1 hb1)
  clear hb1
  go_wp2_with fail
  with_reducible refine (awake10 _).mono ?_
  rintro e w2 ⟨rfl, hb2⟩
  have B2 := Lib.hid (bel_trans B1.out hb2)
  clear hb2
  go_wp2_with fail
  go_ret
  exact ⟨rfl, B2.out⟩
theorem walkSlotsShrink (v0 v1 v2 : Value) (w : World) (base : Nat)
    (o0 : Value.okWide Try.prog w .any base 23 v0) (r0 : Reads Try.prog w 23 v0.cells.toList)
    (o1 : Value.okWide Try.prog w .any base 30 v1) (r1 : Reads Try.prog w 30 v1.cells.toList)
    (o2 : Value.okWide Try.prog w .any base 3 v2) (r2 : Reads Try.prog w 3 v2.cells.toList) :
    Calls Try.prog 5 #[v0, v1, v2] w fun e w' => e = .returned (.bool true) ∧ Below w.heap.size w w' := by
  obtain ⟨t, rfl, ht⟩ := arg_lay o0 r0
  obtain ⟨a, len, cap, zs, rfl, h1, h2, h3, h4, h5⟩ := arg_ints Try.underlying30 Try.underlying3 (by kernel_rfl) o1 r1
  obtain ⟨n, rfl, hn⟩ := arg_int Try.underlying3 o2 r2
  obtain ⟨id, ver, rs, rg⟩ := t
  cases hf : formB ⟨id, ver, rs, rg⟩ with
  | false => exact shrink_no id ver rs rg a len cap n w hf
  | true =>
    obtain ⟨_, _, _, _, g4, _⟩ := formB_rng hf
    simp only at g4
    obtain ⟨g, rfl⟩ := Int.eq_ofNat_of_zero_le (show 0 ≤ rg by omega)
    exact shrinklaw id ver rs g a len cap zs n w ht.1 hf h3 (by omega) h4 h5
set_option maxRecDepth 100000 in
theorem liftedSlotsShrink (os : Os) (started : os.Started) (H : Type) (enc : TypeId × Value → H) :
    ReturnsInHanded {} Try.checked os 5 .any (Rows.slotsShrinkSpec.pre6 enc Try.prog Try.f5 Rows.slotsShrinkRow.domain false) (Rows.slotsShrinkSpec.post enc Try.prog Try.f5 false true false false) := by
  refine returnsInHanded_of_change (C := Try.checked) own started (by kernel_rfl) Try.func5
    (ChangeSpec.witness6 (enc := enc) (C := Try.checked) false ⟨#[], #[.agg #[.int .i64 0, .int .i64 0, .int .i64 0, .int .i64 0], .slice none 0 0, .int .i64 0], []⟩ 8 (by kernel_rfl) (by kernel_rfl) (by kernel_rfl) (by kernel_rfl)) ?_
  intro W base args ds gs before hval0 hW hcnd _
  have hval : ∀ (j : Nat) t v, Try.f5.params[j]? = some t → args[j]? = some v → Value.okWide Try.prog W .any base t v := hval0
  have hW' := hW
  obtain ⟨p, q, hA0, hV, rfl, hfz, hnd⟩ := hW
  have hA : DataW.TrodAll enc Try.prog W 0 (fun _ => true) true Try.f5.params.toList args.toList ds p := hA0
  rw [Try.params5] at hA hval
  obtain ⟨v0, vs0, d0, ds0, p0, q0, hargs, rfl, rfl, h0, r0⟩ := trodAll_cons hA
  obtain ⟨v1, vs1, d1, ds1, p1, q1, rfl, rfl, rfl, h1, r1⟩ := trodAll_cons r0
  obtain ⟨v2, vs2, d2, ds2, p2, q2, rfl, rfl, rfl, h2, r2⟩ := trodAll_cons r1
  obtain ⟨rfl, rfl, rfl⟩ := trodAll_nil r2
  obtain rfl : args = #[v0, v1, v2] := by cases args; simp_all
  obtain ⟨rfl, rfl⟩ := trodVars_none hV
  have lt0 : ∀ x ∈ p0, x.block < W.heap.size := by obtain ⟨m, hm⟩ := h0; exact DataW.trod_lt m _ _ _ hm
  have lt1 : ∀ x ∈ p1, x.block < W.heap.size := by obtain ⟨m, hm⟩ := h1; exact DataW.trod_lt m _ _ _ hm
  have lt2 : ∀ x ∈ p2, x.block < W.heap.size := by obtain ⟨m, hm⟩ := h2; exact DataW.trod_lt m _ _ _ hm
  clear hA0 hval0
  refine (walkSlotsShrink v0 v1 v2 W base (hval 0 23 v0 rfl rfl) (Reads.of h0) (hval 1 30 v1 rfl rfl) (Reads.of h1) (hval 2 3 v2 rfl rfl) (Reads.of h2)).mono fun e W' ⟨he, bel⟩ => ?_
  subst he
  exact ⟨_, rfl, _, _, _, [], _, [], hW', trodAll_mk1 (shut_bool Try.underlying4 _), (trodAll_cons_mk (Below.trod laidOut (by kernel_rfl) (of_decide_eq_true (by kernel_rfl)) h0 bel lt0) (trodAll_cons_mk (Below.trod laidOut (by kernel_rfl) (of_decide_eq_true (by kernel_rfl)) h1 bel lt1) (trodAll_cons_mk (Below.trod laidOut (by kernel_rfl) (of_decide_eq_true (by kernel_rfl)) h2 bel lt2) trodAll_mk0))), rfl, bel.frame _, fun h => by cases h⟩

theorem overSlotsShrink : Rows.slotsShrinkRow.holds Try.pinned (OpenSpec.ofChange Rows.slotsShrinkSpec) :=
  OpenClaim.holds_of_wide 5 Try.f5 rfl rfl rfl rfl rfl rfl rfl ⟨rfl, rfl, rfl, rfl, rfl⟩ rfl rfl rfl rfl rfl (by kernel_rfl) Try.func5 (by kernel_rfl)
    (of_decide_eq_true (by kernel_rfl)) (by unfold Func.isWrapper; first | (rw [if_pos (by decide +kernel)]; kernel_rfl) | (rw [if_neg (by decide +kernel)]; exact ⟨rfl, rfl⟩))
    (fun os started H enc _ => liftedSlotsShrink os started H enc)

/-- The statement. -/
theorem slotsShrink_holds : Rows.SlotsShrinkSaid := overSlotsShrink
#print axioms slotsShrink_holds
end Go.Proofs.Ytkafffoaaklhiaa
