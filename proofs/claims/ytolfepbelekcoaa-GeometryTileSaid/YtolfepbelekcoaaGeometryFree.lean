/-
  GeometryFree: Free agrees with the reference, for up to ten regions of any layouts. No condition.
-/
import Derived.Test.YtolfepbelekcoaaRefFree
import Derived.Test.YtolfepbelekcoaaLaw12a
import Derived.Test.YtolfepbelekcoaaReadReg
import Derived.Deep.DeepCutAuto
import Derived.Deep.RegionHeld3
namespace Go.Proofs.Ytolfepbelekcoaa
open Go.RowKit Go.ChangeShapes Go.WideShapes Go.ChangeAt
set_option linter.unusedVariables false
set_option maxHeartbeats 1000000 in
theorem ints16 (a b : Option Addr) (n c1 c2 : Nat) (zs : List Int) (w : World) (hn : n ≤ 9223372036854775807) (ha : Elems .i64 w a n zs) (hb : Elems .i64 w b n zs) :
    Calls Try.prog 16 #[.slice a n c1, .slice b n c2] w fun e w' => e = .returned (.bool true) ∧ Below w.heap.size w w' := by
  have HA := Lib.hid ha
  have HB := Lib.hid hb
  clear ha hb
  go_enter Try.func16, Try.ntmps16
  go_wp2_with fail
  go_loopw [5, 13] (fun _ j wr => ∃ k : Nat, k ≤ n ∧ j = .int .i64 k ∧ Below w.heap.size w wr) (fun _ j _ => n - (intOf j).toNat)
  case atStart => exact ⟨0, Nat.zero_le _, rfl, Below.refl _ _⟩
  case round =>
    obtain ⟨k, hk, rfl, hbr⟩ := hrel
    have B := Lib.hid hbr
    clear hbr
    by_cases hlt : k < n
    · obtain ⟨b1, o1, rfl, l1, g1⟩ := (HA.out.below B.out (Nat.le_refl _)) k hlt
      obtain ⟨b2, o2, rfl, l2, g2⟩ := (HB.out.below B.out (Nat.le_refl _)) k hlt
      have i1 : (k : Int) < n := by omega
      go_wp2_with fail
      go_quiet (fail)
      go_wp2_with fail
      go_roundw
      case rel => exact ⟨k + 1, by omega, by go_num, below_drewN B.out _⟩
      case measure => simp [intOf]; omega
    · obtain rfl : k = n := by omega
      go_wp2_with fail
      go_ret
      exact ⟨rfl, B.out⟩
set_option maxHeartbeats 2000000 in
theorem freelaw (id ver rs rg : Int) (a : Option Addr) (len cap : Nat) (f : Nat → Reg) (w : World) (hl : len ≤ 9223372036854775807) (hcap : len ≤ cap) (hr : RegsAt w a len f) :
    Calls Try.prog 6 #[.agg #[.int .i64 id, .int .i64 ver, .int .i64 rs, .int .i64 rg], .slice a len cap] w fun e w' => e = .returned (.bool true) ∧ Below w.heap.size w w' := by
  have HR := Lib.hid hr
  clear hr
  go_enter Try.func6, Try.ntmps6
  go_upto_region 1 with fail
  go_cut [1] (fun s wx => ∃ m : Nat, s = .slice a m cap ∧ m ≤ len ∧ m ≤ 10 ∧ (w.alloc (.cells #[.int .i64 id, .int .i64 ver, .int .i64 rs, .int .i64 rg] 23)) = wx)
  case first =>
    go_wp2_with fail
    all_goals go_meet
    · exact ⟨10, rfl, by omega, by omega, rfl⟩
    · exact ⟨len, rfl, by omega, by omega, rfl⟩
  case rest =>
    obtain ⟨m, rfl, hm1, hm2, rfl⟩ := hcut
    have c1 := fun W (h : Below w.heap.size w W) => free17 ⟨id, ver, rs, rg⟩ a m cap f W (by omega) (fun i hi => (HR.out.below h (Nat.le_refl _)) i (by omega))
    have c2 := fun W (h : Below w.heap.size w W) => reffree18 id ver rs rg a m cap f W (by omega) (fun i hi => (HR.out.below h (Nat.le_refl _)) i (by omega))
    rw [refL_free] at c2
    have hlen : (freeD ⟨id, ver, rs, rg⟩ f m).length ≤ 16 := by rw [← refL_free]; exact refL_len _ _ _ _
    generalize freeD ⟨id, ver, rs, rg⟩ f m = zs at *
    have C1 := Lib.hid c1
    have C2 := Lib.hid c2
    clear c1 c2 HR
    go_wp2_with fail
    go_region_held3 (fun w' => (∀ b o, b < w.heap.size + 1 → w'.cell? ⟨b, o, none⟩ = (w.alloc (.cells #[.int .i64 id, .int .i64 ver, .int .i64 rs, .int .i64 rg] 23)).cell? ⟨b, o, none⟩) ∧ Below (w.heap.size + 1) (w.alloc (.cells #[.int .i64 id, .int .i64 ver, .int .i64 rs, .int .i64 rg] 23)) w')
      (first | exact ⟨fun _ _ _ => rfl, (Below.refl _ _).drew⟩ | exact keepS (n := w.heap.size + 1) (by assumption) (by simp) hb4 | exact keepS (n := w.heap.size + 1) (by assumption) (by simp) hb3 | exact keepS (n := w.heap.size + 1) (by assumption) (by simp) hb2 | exact keepS (n := w.heap.size + 1) (by assumption) (by simp) hb1)
      (first
        | (go_at_call 10; (with_reducible refine (awake12 _).mono ?_); rintro e w1 ⟨rfl, hb1⟩)
        | (go_at_call 17; (with_reducible refine (C1.out _ ?_).mono ?_); (exact bel1 (by simpa using (by assumption : _ ∧ _).2)); rintro e w2 ⟨v2, rfl, hown2, hb2⟩; obtain ⟨a2, c2, rfl, he2, _, _⟩ := ownsRow_elems hown2)
        | (go_at_call 18; (with_reducible refine (C2.out _ ?_).mono ?_); (exact bel1 (by simpa using (by assumption : _ ∧ _).2)); rintro e w3 ⟨v3, rfl, hown3, hb3⟩; obtain ⟨a3, c3, rfl, he3, _, _⟩ := ownsRow_elems hown3)
        | (go_at_call 16; (with_reducible refine (ints16 _ _ _ _ _ zs _ (by omega) (he2.below hb3 (Nat.le_refl _)) he3).mono ?_); rintro e w4 ⟨rfl, hb4⟩))
    have hfin := Lib.hid (show Below w.heap.size w w4 from bel1 (by simpa using (by assumption : _ ∧ _).2))
    go_wp2_with fail
    go_ret
    exact ⟨rfl, hfin.out⟩
theorem walkGeometryFree (v0 v1 : Value) (w : World) (base : Nat)
    (o0 : Value.okWide Try.prog w .any base 23 v0) (r0 : Reads Try.prog w 23 v0.cells.toList)
    (o1 : Value.okWide Try.prog w .any base 36 v1) (r1 : Reads Try.prog w 36 v1.cells.toList) :
    Calls Try.prog 6 #[v0, v1] w fun e w' => e = .returned (.bool true) ∧ Below w.heap.size w w' := by
  obtain ⟨⟨id, ver, rs, rg⟩, rfl, _⟩ := arg_lay o0 r0
  obtain ⟨a, len, cap, f, rfl, h1, h2, h3⟩ := arg_regs o1 r1
  exact freelaw id ver rs rg a len cap f w (by omega) h1 h3
set_option maxRecDepth 100000 in
theorem liftedGeometryFree (os : Os) (started : os.Started) (H : Type) (enc : TypeId × Value → H) :
    ReturnsInHanded {} Try.checked os 6 .any (Rows.geometryFreeSpec.pre6 enc Try.prog Try.f6 Rows.geometryFreeRow.domain false) (Rows.geometryFreeSpec.post enc Try.prog Try.f6 false true false false) := by
  refine returnsInHanded_of_change (C := Try.checked) own started (by kernel_rfl) Try.func6
    (ChangeSpec.witness6 (enc := enc) (C := Try.checked) false ⟨#[], #[.agg #[.int .i64 0, .int .i64 0, .int .i64 0, .int .i64 0], .slice none 0 0], []⟩ 8 (by kernel_rfl) (by kernel_rfl) (by kernel_rfl) (by kernel_rfl)) ?_
  intro W base args ds gs before hval0 hW hcnd _
  have hval : ∀ (j : Nat) t v, Try.f6.params[j]? = some t → args[j]? = some v → Value.okWide Try.prog W .any base t v := hval0
  have hW' := hW
  obtain ⟨p, q, hA0, hV, rfl, hfz, hnd⟩ := hW
  have hA : DataW.TrodAll enc Try.prog W 0 (fun _ => true) true Try.f6.params.toList args.toList ds p := hA0
  rw [Try.params6] at hA hval
  obtain ⟨v0, vs0, d0, ds0, p0, q0, hargs, rfl, rfl, h0, r0⟩ := trodAll_cons hA
  obtain ⟨v1, vs1, d1, ds1, p1, q1, rfl, rfl, rfl, h1, r1⟩ := trodAll_cons r0
  obtain ⟨rfl, rfl, rfl⟩ := trodAll_nil r1
  obtain rfl : args = #[v0, v1] := by cases args; simp_all
  obtain ⟨rfl, rfl⟩ := trodVars_none hV
  have lt0 : ∀ x ∈ p0, x.block < W.heap.size := by obtain ⟨m, hm⟩ := h0; exact DataW.trod_lt m _ _ _ hm
  have lt1 : ∀ x ∈ p1, x.block < W.heap.size := by obtain ⟨m, hm⟩ := h1; exact DataW.trod_lt m _ _ _ hm
  clear hA0 hval0
  refine (walkGeometryFree v0 v1 W base (hval 0 23 v0 rfl rfl) (Reads.of h0) (hval 1 36 v1 rfl rfl) (Reads.of h1)).mono fun e W' ⟨he, bel⟩ => ?_
  subst he
  exact ⟨_, rfl, _, _, _, [], _, [], hW', trodAll_mk1 (shut_bool Try.underlying4 _), (trodAll_cons_mk (Below.trod laidOut (by kernel_rfl) (of_decide_eq_true (by kernel_rfl)) h0 bel lt0) (trodAll_cons_mk (Below.trod laidOut (by kernel_rfl) (of_decide_eq_true (by kernel_rfl)) h1 bel lt1) trodAll_mk0)), rfl, bel.frame _, fun h => by cases h⟩

theorem overGeometryFree : Rows.geometryFreeRow.holds Try.pinned (OpenSpec.ofChange Rows.geometryFreeSpec) :=
  OpenClaim.holds_of_wide 6 Try.f6 rfl rfl rfl rfl rfl rfl rfl ⟨rfl, rfl, rfl, rfl, rfl⟩ rfl rfl rfl rfl rfl (by kernel_rfl) Try.func6 (by kernel_rfl)
    (of_decide_eq_true (by kernel_rfl)) (by unfold Func.isWrapper; first | (rw [if_pos (by decide +kernel)]; kernel_rfl) | (rw [if_neg (by decide +kernel)]; exact ⟨rfl, rfl⟩))
    (fun os started H enc _ => liftedGeometryFree os started H enc)

/-- The statement. -/
theorem geometryFree_holds : Rows.GeometryFreeSaid := overGeometryFree
#print axioms geometryFree_holds
end Go.Proofs.Ytolfepbelekcoaa
