/-
  GeometryHalf: a slot overlaps exactly the two slots with the doubled number, and the next one, of a layout with regions of half the size. No condition.
-/
import Derived.Test.YtolfepbelekcoaaLaw12a
import Derived.Deep.DeepCutAuto
import Derived.WalkSmall
namespace Go.Proofs.Ytolfepbelekcoaa
open Go.RowKit Go.ChangeShapes Go.WideShapes Go.ChangeAt
set_option linter.unusedVariables false
set_option maxHeartbeats 2000000 in
theorem half_a (id ver rs rg i k : Int) (w : World) (h : formB ⟨id, ver, rs, rg⟩ = false) :
    Calls Try.prog 4 #[.agg #[.int .i64 id, .int .i64 ver, .int .i64 rs, .int .i64 rg], .int .i64 i, .int .i64 k] w fun e w' => e = .returned (.bool true) ∧ Below w.heap.size w w' := by
  have c1 := fun W => refform12 id ver rs rg W
  rw [h] at c1
  have C1 := Lib.hid c1
  clear c1 h
  go_enter Try.func4, Try.ntmps4
  go_wp2_with fail
  with_reducible refine (C1.out _).mono ?_
  rintro e w1 ⟨rfl, hb'⟩
  have hk := hb'
  obtain ⟨hc, _⟩ := bcell hk
  clear hb'
  go_wp2_with fail
  with_reducible refine (awake12 _).mono ?_
  rintro e w2 ⟨rfl, hb'⟩
  replace hk := bel_trans hk hb'
  clear hc
  obtain ⟨hc, _⟩ := bcell hk
  clear hb'
  go_wp2_with fail
  go_ret
  exact ⟨rfl, bel2 hk⟩
set_option maxHeartbeats 2000000 in
theorem half_b (id ver rs rg i k : Int) (w : World) (h : formB ⟨id, ver, rs, rg⟩ = true) (h2 : formB ⟨id, ver, wrap64 (rs.tdiv 2), 16⟩ = false) :
    Calls Try.prog 4 #[.agg #[.int .i64 id, .int .i64 ver, .int .i64 rs, .int .i64 rg], .int .i64 i, .int .i64 k] w fun e w' => e = .returned (.bool true) ∧ Below w.heap.size w w' := by
  have c1 := fun W => refform12 id ver rs rg W
  have c2 := fun W => refform12 id ver (wrap64 (rs.tdiv 2)) 16 W
  rw [h] at c1
  rw [h2] at c2
  have C1 := Lib.hid c1; have C2 := Lib.hid c2
  clear c1 c2 h h2
  go_enter Try.func4, Try.ntmps4
  go_wp2_with fail
  with_reducible refine (C1.out _).mono ?_
  rintro e w1 ⟨rfl, hb'⟩
  have hk := hb'
  obtain ⟨hc, _⟩ := bcell hk
  clear hb'
  go_wp2_with fail
  with_reducible refine (C2.out _).mono ?_
  rintro e w2 ⟨rfl, hb'⟩
  replace hk := bel_trans hk hb'
  clear hc
  obtain ⟨hc, _⟩ := bcell hk
  clear hb'
  go_wp2_with fail
  with_reducible refine (awake12 _).mono ?_
  rintro e w3 ⟨rfl, hb'⟩
  replace hk := bel_trans hk hb'
  clear hc
  obtain ⟨hc, _⟩ := bcell hk
  clear hb'
  go_wp2_with fail
  go_ret
  exact ⟨rfl, bel2 hk⟩
set_option maxHeartbeats 2000000 in
theorem half_c (id ver rs rg i k : Int) (w : World) (h : formB ⟨id, ver, rs, rg⟩ = true) (h2 : formB ⟨id, ver, wrap64 (rs.tdiv 2), 16⟩ = true) (hk0 : k < 0) :
    Calls Try.prog 4 #[.agg #[.int .i64 id, .int .i64 ver, .int .i64 rs, .int .i64 rg], .int .i64 i, .int .i64 k] w fun e w' => e = .returned (.bool true) ∧ Below w.heap.size w w' := by
  have c1 := fun W => refform12 id ver rs rg W
  have c2 := fun W => refform12 id ver (wrap64 (rs.tdiv 2)) 16 W
  rw [h] at c1
  rw [h2] at c2
  have C1 := Lib.hid c1; have C2 := Lib.hid c2
  have d1 : decide (k < 0) = true := decide_eq_true hk0
  clear c1 c2 h h2
  go_enter Try.func4, Try.ntmps4
  go_wp2_with fail
  with_reducible refine (C1.out _).mono ?_
  rintro e w1 ⟨rfl, hb'⟩
  have hk := hb'
  obtain ⟨hc, _⟩ := bcell hk
  clear hb'
  go_wp2_with fail
  with_reducible refine (C2.out _).mono ?_
  rintro e w2 ⟨rfl, hb'⟩
  replace hk := bel_trans hk hb'
  clear hc
  obtain ⟨hc, _⟩ := bcell hk
  clear hb'
  go_wp2_with fail
  with_reducible refine (awake12 _).mono ?_
  rintro e w3 ⟨rfl, hb'⟩
  replace hk := bel_trans hk hb'
  clear hc
  obtain ⟨hc, _⟩ := bcell hk
  clear hb'
  go_wp2_with fail
  go_ret
  exact ⟨rfl, bel2 hk⟩
set_option maxHeartbeats 2000000 in
theorem half_d (id ver rs rg i k : Int) (w : World) (h : formB ⟨id, ver, rs, rg⟩ = true) (h2 : formB ⟨id, ver, wrap64 (rs.tdiv 2), 16⟩ = true) (hk0 : 16 ≤ k) :
    Calls Try.prog 4 #[.agg #[.int .i64 id, .int .i64 ver, .int .i64 rs, .int .i64 rg], .int .i64 i, .int .i64 k] w fun e w' => e = .returned (.bool true) ∧ Below w.heap.size w w' := by
  have c1 := fun W => refform12 id ver rs rg W
  have c2 := fun W => refform12 id ver (wrap64 (rs.tdiv 2)) 16 W
  rw [h] at c1
  rw [h2] at c2
  have C1 := Lib.hid c1; have C2 := Lib.hid c2
  have d1 : decide (k < 0) = false := decide_eq_false (by omega)
  have d2 : decide (16 ≤ k) = true := decide_eq_true hk0
  clear c1 c2 h h2
  go_enter Try.func4, Try.ntmps4
  go_wp2_with fail
  with_reducible refine (C1.out _).mono ?_
  rintro e w1 ⟨rfl, hb'⟩
  have hk := hb'
  obtain ⟨hc, _⟩ := bcell hk
  clear hb'
  go_wp2_with fail
  with_reducible refine (C2.out _).mono ?_
  rintro e w2 ⟨rfl, hb'⟩
  replace hk := bel_trans hk hb'
  clear hc
  obtain ⟨hc, _⟩ := bcell hk
  clear hb'
  go_wp2_with fail
  with_reducible refine (awake12 _).mono ?_
  rintro e w3 ⟨rfl, hb'⟩
  replace hk := bel_trans hk hb'
  clear hc
  obtain ⟨hc, _⟩ := bcell hk
  clear hb'
  go_wp2_with fail
  go_ret
  exact ⟨rfl, bel2 hk⟩
/-- the plain law -/
theorem half_law (a : Lay) (i k : Int) (h : formB a = true) (h2 : formB ⟨a.id, a.ver, wrap64 (a.rs.tdiv 2), 16⟩ = true) (i0 : 0 ≤ i) (i1 : i < a.rg) (k0 : 0 ≤ k) (k1 : k < 16) :
    overlapB a i ⟨a.id, a.ver, wrap64 (a.rs.tdiv 2), 16⟩ k = (k == 2 * i || k == 2 * i + 1) := by
  obtain ⟨_, _, r1, r2, g1, g2⟩ := formB_rng h
  obtain ⟨_, _, s1, s2, _, _⟩ := formB_rng h2
  simp only at s1 s2
  have e : wrap64 (a.rs.tdiv 2) = a.rs / 2 := by
    rw [Int.tdiv_eq_ediv_of_nonneg (by omega)]; exact wrap_small _ (by omega)
  rw [e] at h2 s1 s2 ⊢
  have hp : a.rs = 2 * (a.rs / 2) := by
    have : pow2B a.rs = true := by
      have := h; unfold formB at this; rw [decide_eq_true_eq] at this; exact this.2.2.2.1
    simp only [pow2B, Bool.or_eq_true, beq_iff_eq] at this
    omega
  have f1 : firstD a i = 74 + i * a.rs := by unfold firstD; rw [if_pos ⟨h, i0, i1⟩]
  have f2 : firstD ⟨a.id, a.ver, a.rs / 2, 16⟩ k = 74 + k * (a.rs / 2) := by unfold firstD; rw [if_pos ⟨h2, k0, k1⟩]
  unfold overlapB
  rw [f1, f2]
  generalize a.rs / 2 = d at *
  rw [hp]
  have m1 := Int.mul_nonneg i0 (show 0 ≤ d by omega)
  have m2 := Int.mul_nonneg k0 (show 0 ≤ d by omega)
  have e1 : i * (2 * d) = 2 * (i * d) := by rw [← Int.mul_assoc, Int.mul_comm i 2, Int.mul_assoc]
  rw [e1, Bool.eq_iff_iff]
  simp only [decide_eq_true_eq, Bool.or_eq_true, beq_iff_eq]
  have le : ∀ x y : Int, x ≤ y → x * d ≤ y * d := fun x y hxy => Int.mul_le_mul_of_nonneg_right hxy (by omega)
  constructor
  · rintro ⟨_, _, u, v⟩
    rcases Int.lt_trichotomy k (2 * i) with hc | hc | hc
    · have := le (k + 1) (2 * i) (by omega)
      rw [Int.add_mul, Int.one_mul, Int.mul_assoc] at this; omega
    · exact .inl hc
    · right
      rcases Int.lt_trichotomy k (2 * i + 1) with hd | hd | hd
      · omega
      · exact hd
      · have := le (2 * i + 2) k (by omega)
        rw [Int.add_mul, Int.mul_assoc] at this; omega
  · rintro (hc | hc)
    · subst hc; rw [Int.mul_assoc]; omega
    · subst hc; rw [Int.add_mul, Int.one_mul, Int.mul_assoc]; omega
theorem tmod_rng (i g : Int) (h0 : 4 ≤ g) (h1 : g ≤ 16) : wrap64 (i.tmod g + g) = i.tmod g + g ∧ 0 ≤ (i.tmod g + g).tmod g ∧ (i.tmod g + g).tmod g < g := by
  have a := Int.lt_tmod_of_pos i (b := g) (by omega)
  have b := Int.tmod_lt_of_pos i (b := g) (by omega)
  refine ⟨wrap_small _ (by omega), Int.tmod_nonneg _ (by omega), Int.tmod_lt_of_pos _ (by omega)⟩
set_option maxHeartbeats 2000000 in
theorem half_e (id ver rs rg i k : Int) (w : World) (h : formB ⟨id, ver, rs, rg⟩ = true) (h2 : formB ⟨id, ver, wrap64 (rs.tdiv 2), 16⟩ = true) (k0 : 0 ≤ k) (k1 : k < 16) :
    Calls Try.prog 4 #[.agg #[.int .i64 id, .int .i64 ver, .int .i64 rs, .int .i64 rg], .int .i64 i, .int .i64 k] w fun e w' => e = .returned (.bool true) ∧ Below w.heap.size w w' := by
  have c1 := fun W => refform12 id ver rs rg W
  have c2 := fun W => refform12 id ver (wrap64 (rs.tdiv 2)) 16 W
  obtain ⟨_, _, r1, r2, g1, g2⟩ := formB_rng h
  simp only at r1 r2 g1 g2
  have ht := Lib.hid (tmod_rng i rg g1 g2)
  have c3 := fun j (j0 : 0 ≤ j) (j1 : j < rg) W => overlap8 id ver rs rg j id ver (wrap64 (rs.tdiv 2)) 16 k W
  have hl := fun j (j0 : 0 ≤ j) (j1 : j < rg) => half_law ⟨id, ver, rs, rg⟩ j k h h2 j0 j1 k0 k1
  simp only at hl
  rw [h] at c1
  rw [h2] at c2
  have er : wrap64 (rs.tdiv 2) = rs / 2 := by
    rw [Int.tdiv_eq_ediv_of_nonneg (by omega)]; exact wrap_small _ (by omega)
  rw [er] at c2 c3 hl h2
  clear er
  have C1 := Lib.hid c1; have C2 := Lib.hid c2; have C3 := Lib.hid c3; have HL := Lib.hid hl
  have d1 : decide (k < 0) = false := decide_eq_false (by omega)
  have d2 : decide (16 ≤ k) = false := decide_eq_false (by omega)
  have d3 : (rg == 0) = false := by rw [beq_eq_false_iff_ne]; omega
  clear c1 c2 c3 hl h h2
  go_enter Try.func4, Try.ntmps4
  go_wp2_with fail
  with_reducible refine (C1.out _).mono ?_
  rintro e w1 ⟨rfl, hb'⟩
  have hk := hb'
  obtain ⟨hc, _⟩ := bcell hk
  clear hb'
  go_wp2_with fail
  with_reducible refine (C2.out _).mono ?_
  rintro e w2 ⟨rfl, hb'⟩
  replace hk := bel_trans hk hb'
  clear hc
  obtain ⟨hc, _⟩ := bcell hk
  clear hb'
  go_wp2_with fail
  go_quiet (fail)
  have hk2 := below_drewN hk nq
  clear hk hc
  generalize w2.drewN nq = w3 at *
  have hk := hk2
  clear hk2
  obtain ⟨hc, _⟩ := bcell hk
  obtain ⟨e1, j0, j1⟩ := ht.out
  rw [e1]
  clear e1 ht
  generalize (i.tmod rg + rg).tmod rg = j at *
  generalize i.tmod rg + rg = j' at *
  have c3 := C3.out j j0 j1
  have hl := HL.out j j0 j1
  rw [hl] at c3
  have j2 : j < 16 := by omega
  clear C3 HL
  by_cases h1 : k = 2 * j
  · have q1 : (k == 2 * j) = true := by rw [beq_iff_eq]; exact h1
    rw [q1, Bool.true_or] at c3
    clear h1
    have C := Lib.hid c3
    clear c3 hl C1 C2 j1
    go_wp2_with fail
    with_reducible refine (awake12 _).mono ?_
    rintro e w4 ⟨rfl, hb'⟩
    replace hk := bel_trans hk hb'
    clear hc
    obtain ⟨hc, _⟩ := bcell hk
    clear hb'
    go_wp2_with fail
    with_reducible refine (C.out _).mono ?_
    rintro e w5 ⟨rfl, hb'⟩
    replace hk := bel_trans hk hb'
    clear hc
    obtain ⟨hc, _⟩ := bcell hk
    clear hb'
    go_wp2_with fail
    go_ret
    exact ⟨rfl, bel2 hk⟩
  · have q1 : (k == 2 * j) = false := by rw [beq_eq_false_iff_ne]; exact h1
    rw [q1, Bool.false_or] at c3
    clear h1
    have C := Lib.hid c3
    clear c3 hl C1 C2 j1
    go_wp2_with fail
    with_reducible refine (awake12 _).mono ?_
    rintro e w4 ⟨rfl, hb'⟩
    replace hk := bel_trans hk hb'
    clear hc
    obtain ⟨hc, _⟩ := bcell hk
    clear hb'
    go_wp2_with fail
    with_reducible refine (C.out _).mono ?_
    rintro e w5 ⟨rfl, hb'⟩
    replace hk := bel_trans hk hb'
    clear hc
    obtain ⟨hc, _⟩ := bcell hk
    clear hb'
    go_wp2_with fail
    all_goals (go_ret; exact ⟨rfl, bel2 hk⟩)
theorem walkGeometryHalf (v0 v1 v2 : Value) (w : World) (base : Nat)
    (o0 : Value.okWide Try.prog w .any base 23 v0) (r0 : Reads Try.prog w 23 v0.cells.toList)
    (o1 : Value.okWide Try.prog w .any base 3 v1) (r1 : Reads Try.prog w 3 v1.cells.toList)
    (o2 : Value.okWide Try.prog w .any base 3 v2) (r2 : Reads Try.prog w 3 v2.cells.toList) :
    Calls Try.prog 4 #[v0, v1, v2] w fun e w' => e = .returned (.bool true) ∧ Below w.heap.size w w' := by
  obtain ⟨⟨id, ver, rs, rg⟩, rfl, _⟩ := arg_lay o0 r0
  obtain ⟨i, rfl, _⟩ := arg_int Try.underlying3 o1 r1
  obtain ⟨k, rfl, _⟩ := arg_int Try.underlying3 o2 r2
  cases hf : formB ⟨id, ver, rs, rg⟩ with
  | false => exact half_a id ver rs rg i k w hf
  | true =>
    cases hg : formB ⟨id, ver, wrap64 (rs.tdiv 2), 16⟩ with
    | false => exact half_b id ver rs rg i k w hf hg
    | true =>
      by_cases h1 : k < 0
      · exact half_c id ver rs rg i k w hf hg h1
      by_cases h2 : 16 ≤ k
      · exact half_d id ver rs rg i k w hf hg h2
      exact half_e id ver rs rg i k w hf hg (by omega) (by omega)
set_option maxRecDepth 100000 in
theorem liftedGeometryHalf (os : Os) (started : os.Started) (H : Type) (enc : TypeId × Value → H) :
    ReturnsInHanded {} Try.checked os 4 .any (Rows.geometryHalfSpec.pre6 enc Try.prog Try.f4 Rows.geometryHalfRow.domain false) (Rows.geometryHalfSpec.post enc Try.prog Try.f4 false true false false) := by
  refine returnsInHanded_of_change (C := Try.checked) own started (by kernel_rfl) Try.func4
    (ChangeSpec.witness6 (enc := enc) (C := Try.checked) false ⟨#[], #[.agg #[.int .i64 0, .int .i64 0, .int .i64 0, .int .i64 0], .int .i64 0, .int .i64 0], []⟩ 8 (by kernel_rfl) (by kernel_rfl) (by kernel_rfl) (by kernel_rfl)) ?_
  intro W base args ds gs before hval0 hW hcnd _
  have hval : ∀ (j : Nat) t v, Try.f4.params[j]? = some t → args[j]? = some v → Value.okWide Try.prog W .any base t v := hval0
  have hW' := hW
  obtain ⟨p, q, hA0, hV, rfl, hfz, hnd⟩ := hW
  have hA : DataW.TrodAll enc Try.prog W 0 (fun _ => true) true Try.f4.params.toList args.toList ds p := hA0
  rw [Try.params4] at hA hval
  obtain ⟨v0, vs0, d0, ds0, p0, q0, hargs, rfl, rfl, h0, r0⟩ := trodAll_cons hA
  obtain ⟨v1, vs1, d1, ds1, p1, q1, rfl, rfl, rfl, h1, r1⟩ := trodAll_cons r0
  obtain ⟨v2, vs2, d2, ds2, p2, q2, rfl, rfl, rfl, h2, r2⟩ := trodAll_cons r1
  obtain ⟨rfl, rfl, rfl⟩ := trodAll_nil r2
  obtain rfl : args = #[v0, v1, v2] := by cases args; simp_all
  obtain ⟨rfl, rfl⟩ := trodVars_none hV
  have lt0 : ∀ x ∈ p0, x.block < W.heap.size := by obtain ⟨m, hm⟩ := h0; exact DataW.trod_lt m _ _ _ hm
  have lt1 : ∀ x ∈ p1, x.block < W.heap.size := by obtain ⟨m, hm⟩ := h1; exact DataW.trod_lt m _ _ _ hm
  have lt2 : ∀ x ∈ p2, x.block < W.heap.size := by obtain ⟨m, hm⟩ := h2; exact DataW.trod_lt m _ _ _ hm
  clear hA0 hval0
  refine (walkGeometryHalf v0 v1 v2 W base (hval 0 23 v0 rfl rfl) (Reads.of h0) (hval 1 3 v1 rfl rfl) (Reads.of h1) (hval 2 3 v2 rfl rfl) (Reads.of h2)).mono fun e W' ⟨he, bel⟩ => ?_
  subst he
  exact ⟨_, rfl, _, _, _, [], _, [], hW', trodAll_mk1 (shut_bool Try.underlying4 _), (trodAll_cons_mk (Below.trod laidOut (by kernel_rfl) (of_decide_eq_true (by kernel_rfl)) h0 bel lt0) (trodAll_cons_mk (Below.trod laidOut (by kernel_rfl) (of_decide_eq_true (by kernel_rfl)) h1 bel lt1) (trodAll_cons_mk (Below.trod laidOut (by kernel_rfl) (of_decide_eq_true (by kernel_rfl)) h2 bel lt2) trodAll_mk0))), rfl, bel.frame _, fun h => by cases h⟩

theorem overGeometryHalf : Rows.geometryHalfRow.holds Try.pinned (OpenSpec.ofChange Rows.geometryHalfSpec) :=
  OpenClaim.holds_of_wide 4 Try.f4 rfl rfl rfl rfl rfl rfl rfl ⟨rfl, rfl, rfl, rfl, rfl⟩ rfl rfl rfl rfl rfl (by kernel_rfl) Try.func4 (by kernel_rfl)
    (of_decide_eq_true (by kernel_rfl)) (by unfold Func.isWrapper; first | (rw [if_pos (by decide +kernel)]; kernel_rfl) | (rw [if_neg (by decide +kernel)]; exact ⟨rfl, rfl⟩))
    (fun os started H enc _ => liftedGeometryHalf os started H enc)

/-- The statement. -/
theorem geometryHalf_holds : Rows.GeometryHalfSaid := overGeometryHalf
#print axioms geometryHalf_holds
end Go.Proofs.Ytolfepbelekcoaa
