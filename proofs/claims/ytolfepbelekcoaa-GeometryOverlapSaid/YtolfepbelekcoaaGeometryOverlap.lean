/-
  GeometryOverlap: Overlap agrees with the reference, is symmetric, and within one layout holds exactly for a slot and itself. No condition.
-/
import Derived.Test.YtolfepbelekcoaaRefOv
import Derived.Test.YtolfepbelekcoaaLaw12a
import Derived.BigRegion
namespace Go.Proofs.Ytolfepbelekcoaa
open Go.RowKit Go.ChangeShapes Go.WideShapes Go.ChangeAt
set_option linter.unusedVariables false
/-- what the statement 'a, b, i, k := ..' leaves -/
def Parted (w : World) (id ver rs rg id2 ver2 rs2 rg2 i k : Int) (s3 s4 s5 s6 : Value) (wx : World) : Prop :=
  ∃ ga gb : Nat, s3 = .pointer (some ⟨ga, 0, none⟩) ∧ s4 = .pointer (some ⟨gb, 0, none⟩) ∧ s5 = .int .i64 i ∧ s6 = .int .i64 k ∧ Below w.heap.size w wx ∧ ga < wx.heap.size ∧ gb < wx.heap.size ∧ wx.cell? ⟨ga, 0, none⟩ = some (.int .i64 id) ∧ wx.cell? ⟨gb, 0, none⟩ = some (.int .i64 id2) ∧ wx.cell? ⟨ga, 1, none⟩ = some (.int .i64 ver) ∧ wx.cell? ⟨gb, 1, none⟩ = some (.int .i64 ver2) ∧ wx.cell? ⟨ga, 2, none⟩ = some (.int .i64 rs) ∧ wx.cell? ⟨gb, 2, none⟩ = some (.int .i64 rs2) ∧ wx.cell? ⟨ga, 3, none⟩ = some (.int .i64 rg) ∧ wx.cell? ⟨gb, 3, none⟩ = some (.int .i64 rg2)
theorem overlap_comm (a b : Lay) (i k : Int) : overlapB a i b k = overlapB b k a i := by
  unfold overlapB; rw [Bool.eq_iff_iff, decide_eq_true_eq, decide_eq_true_eq]; omega
theorem overlap_self (a : Lay) (i k : Int) : overlapB a i a k = (decide (0 < ((sectorsL a i).length : Int)) && (decide (0 < ((sectorsL a k).length : Int)) && i == k)) := by
  have h1 := sect_cases a i
  have h2 := sect_cases a k
  rcases h1 with ⟨e1, f1⟩ | h1
  · rw [e1]; unfold overlapB; rw [f1]; simp
  rcases h2 with ⟨e2, f2⟩ | h2
  · rw [e2]; unfold overlapB; rw [f2]; simp
  have p1 : decide (0 < ((sectorsL a i).length : Int)) = true := by simp; omega
  have p2 : decide (0 < ((sectorsL a k).length : Int)) = true := by simp; omega
  rw [p1, p2]
  have q : ∀ j, 74 ≤ firstD a j → firstD a j = 74 + j * a.rs := by
    intro j hj
    unfold firstD at hj ⊢
    split
    · rfl
    · rename_i hn; rw [if_neg hn] at hj; omega
  have g1 := q i (by omega)
  have g2 := q k (by omega)
  simp only [Bool.true_and, overlapB]
  rw [Bool.eq_iff_iff, decide_eq_true_eq, beq_iff_eq]
  constructor
  · rintro ⟨_, _, u, v⟩
    rw [g1, g2] at u v
    obtain ⟨r0, r1⟩ : 2 ≤ a.rs ∧ a.rs ≤ 2048 := ⟨by omega, by omega⟩
    rcases Int.lt_trichotomy i k with h | h | h
    · have := Int.mul_le_mul_of_nonneg_right (show i + 1 ≤ k by omega) (show 0 ≤ a.rs by omega)
      rw [Int.add_mul, Int.one_mul] at this; omega
    · exact h
    · have := Int.mul_le_mul_of_nonneg_right (show k + 1 ≤ i by omega) (show 0 ≤ a.rs by omega)
      rw [Int.add_mul, Int.one_mul] at this; omega
  · rintro rfl; omega
set_option maxHeartbeats 2000000 in
theorem ovlaw (id ver rs rg id2 ver2 rs2 rg2 i k : Int) (w : World) :
    Calls Try.prog 3 #[.agg #[.int .i64 id, .int .i64 ver, .int .i64 rs, .int .i64 rg, .int .i64 id2, .int .i64 ver2, .int .i64 rs2, .int .i64 rg2, .int .i64 i, .int .i64 k]] w
      fun e w' => e = .returned (.bool true) ∧ Below w.heap.size w w' := by
  have c1 := fun W => overlap8 id ver rs rg i id2 ver2 rs2 rg2 k W
  have c2 := fun W => overlap8 id ver rs rg i id ver rs rg k W
  have c3 := fun W => sectors9 id ver rs rg i W
  have c4 := fun W => sectors9 id ver rs rg k W
  have c5 := fun W => refov11 id ver rs rg i id2 ver2 rs2 rg2 k W
  have c6 := fun W => overlap8 id2 ver2 rs2 rg2 k id ver rs rg i W
  rw [overlap_comm ⟨id2, ver2, rs2, rg2⟩ ⟨id, ver, rs, rg⟩ k i] at c6
  rw [overlap_self] at c2
  generalize overlapB ⟨id, ver, rs, rg⟩ i ⟨id2, ver2, rs2, rg2⟩ k = X at *
  generalize sectorsL ⟨id, ver, rs, rg⟩ i = xs at *
  generalize sectorsL ⟨id, ver, rs, rg⟩ k = ys at *
  obtain ⟨q, hq⟩ : ∃ q : Bool, (i == k) = q := ⟨_, rfl⟩
  rw [hq] at c2
  have C1 := Lib.hid c1; have C2 := Lib.hid c2; have C3 := Lib.hid c3; have C4 := Lib.hid c4; have C5 := Lib.hid c5; have C6 := Lib.hid c6
  clear c1 c2 c3 c4 c5 c6
  go_enter Try.func3, Try.ntmps3
  go_upto_region 1 with fail
  go_cut [3, 4, 5, 6] (fun s3 s4 s5 s6 wx => Parted w id ver rs rg id2 ver2 rs2 rg2 i k s3 s4 s5 s6 wx)
  case first =>
    go_region
    all_goals
      go_wp2_with fail
      go_meet
    · exact ⟨_, _, rfl, rfl, rfl, rfl, ((((Below.refl _ _).alloc (Nat.le_refl _) _).alloc (by simp <;> omega) _).alloc (by simp <;> omega) _).drew, by simp <;> omega, by simp <;> omega, by simp [go_sem], by simp [go_sem], by simp [go_sem], by simp [go_sem], by simp [go_sem], by simp [go_sem], by simp [go_sem], by simp [go_sem]⟩
    · exact ⟨_, _, rfl, rfl, rfl, rfl, ((((Below.refl _ _).alloc (Nat.le_refl _) _).alloc (by simp <;> omega) _).alloc (by simp <;> omega) _).drew, by simp <;> omega, by simp <;> omega, by simp [go_sem], by simp [go_sem], by simp [go_sem], by simp [go_sem], by simp [go_sem], by simp [go_sem], by simp [go_sem], by simp [go_sem]⟩
  case rest =>
    obtain ⟨ga, gb, rfl, rfl, rfl, rfl, hb, la, lb, a0, b0, a1, b1, a2, b2, a3, b3⟩ := hcut
    by_cases hm : 0 < xs.length
    · have dm : decide (0 < (xs.length : Int)) = true := decide_eq_true (by omega)
      by_cases hn : 0 < ys.length
      · have dn : decide (0 < (ys.length : Int)) = true := decide_eq_true (by omega)
        go_wp2_with fail
        with_reducible refine (C1.out _).mono ?_
        rintro e w1 ⟨rfl, hb'⟩
        have hk := hb'
        obtain ⟨hc, _⟩ := bcell hk
        clear hb'
        go_wp2_with fail
        with_reducible refine (C2.out _).mono ?_
        rintro e w2 ⟨rfl, hb'⟩
        replace hk := bel_trans hk hb'
        clear hc
        obtain ⟨hc, _⟩ := bcell hk
        clear hb'
        go_wp2_with fail
        with_reducible refine (C3.out _).mono ?_
        rintro e w3 ⟨v, rfl, hown, hb'⟩
        obtain ⟨_, _, rfl, _, _, _⟩ := ownsRow_elems hown
        clear hown
        replace hk := bel_trans hk hb'
        clear hc
        obtain ⟨hc, _⟩ := bcell hk
        clear hb'
        go_wp2_with fail
        with_reducible refine (C4.out _).mono ?_
        rintro e w4 ⟨v, rfl, hown, hb'⟩
        obtain ⟨_, _, rfl, _, _, _⟩ := ownsRow_elems hown
        clear hown
        replace hk := bel_trans hk hb'
        clear hc
        obtain ⟨hc, _⟩ := bcell hk
        clear hb'
        go_wp2_with fail
        with_reducible refine (awake12 _).mono ?_
        rintro e w5 ⟨rfl, hb'⟩
        replace hk := bel_trans hk hb'
        clear hc
        obtain ⟨hc, _⟩ := bcell hk
        clear hb'
        go_wp2_with fail
        with_reducible refine (C5.out _).mono ?_
        rintro e w6 ⟨rfl, hb'⟩
        replace hk := bel_trans hk hb'
        clear hc
        obtain ⟨hc, _⟩ := bcell hk
        clear hb'
        go_wp2_with fail
        with_reducible refine (C6.out _).mono ?_
        rintro e w7 ⟨rfl, hb'⟩
        replace hk := bel_trans hk hb'
        clear hc
        obtain ⟨hc, _⟩ := bcell hk
        clear hb'
        go_wp2_with fail
        all_goals (go_ret; exact ⟨rfl, bel_trans hb hk⟩)
      · have dn : decide (0 < (ys.length : Int)) = false := decide_eq_false (by omega)
        have hn' : (ys.length : Int) ≤ 0 := by omega
        go_wp2_with fail
        with_reducible refine (C1.out _).mono ?_
        rintro e w1 ⟨rfl, hb'⟩
        have hk := hb'
        obtain ⟨hc, _⟩ := bcell hk
        clear hb'
        go_wp2_with fail
        with_reducible refine (C2.out _).mono ?_
        rintro e w2 ⟨rfl, hb'⟩
        replace hk := bel_trans hk hb'
        clear hc
        obtain ⟨hc, _⟩ := bcell hk
        clear hb'
        go_wp2_with fail
        with_reducible refine (C3.out _).mono ?_
        rintro e w3 ⟨v, rfl, hown, hb'⟩
        obtain ⟨_, _, rfl, _, _, _⟩ := ownsRow_elems hown
        clear hown
        replace hk := bel_trans hk hb'
        clear hc
        obtain ⟨hc, _⟩ := bcell hk
        clear hb'
        go_wp2_with fail
        with_reducible refine (C4.out _).mono ?_
        rintro e w4 ⟨v, rfl, hown, hb'⟩
        obtain ⟨_, _, rfl, _, _, _⟩ := ownsRow_elems hown
        clear hown
        replace hk := bel_trans hk hb'
        clear hc
        obtain ⟨hc, _⟩ := bcell hk
        clear hb'
        go_wp2_with fail
        with_reducible refine (awake12 _).mono ?_
        rintro e w5 ⟨rfl, hb'⟩
        replace hk := bel_trans hk hb'
        clear hc
        obtain ⟨hc, _⟩ := bcell hk
        clear hb'
        go_wp2_with fail
        with_reducible refine (C5.out _).mono ?_
        rintro e w6 ⟨rfl, hb'⟩
        replace hk := bel_trans hk hb'
        clear hc
        obtain ⟨hc, _⟩ := bcell hk
        clear hb'
        go_wp2_with fail
        with_reducible refine (C6.out _).mono ?_
        rintro e w7 ⟨rfl, hb'⟩
        replace hk := bel_trans hk hb'
        clear hc
        obtain ⟨hc, _⟩ := bcell hk
        clear hb'
        go_wp2_with fail
        all_goals (go_ret; exact ⟨rfl, bel_trans hb hk⟩)
    · have dm : decide (0 < (xs.length : Int)) = false := decide_eq_false (by omega)
      have hm' : (xs.length : Int) ≤ 0 := by omega
      go_wp2_with fail
      with_reducible refine (C1.out _).mono ?_
      rintro e w1 ⟨rfl, hb'⟩
      have hk := hb'
      obtain ⟨hc, _⟩ := bcell hk
      clear hb'
      go_wp2_with fail
      with_reducible refine (C2.out _).mono ?_
      rintro e w2 ⟨rfl, hb'⟩
      replace hk := bel_trans hk hb'
      clear hc
      obtain ⟨hc, _⟩ := bcell hk
      clear hb'
      go_wp2_with fail
      with_reducible refine (C3.out _).mono ?_
      rintro e w3 ⟨v, rfl, hown, hb'⟩
      obtain ⟨_, _, rfl, _, _, _⟩ := ownsRow_elems hown
      clear hown
      replace hk := bel_trans hk hb'
      clear hc
      obtain ⟨hc, _⟩ := bcell hk
      clear hb'
      go_wp2_with fail
      with_reducible refine (awake12 _).mono ?_
      rintro e w5 ⟨rfl, hb'⟩
      replace hk := bel_trans hk hb'
      clear hc
      obtain ⟨hc, _⟩ := bcell hk
      clear hb'
      go_wp2_with fail
      with_reducible refine (C5.out _).mono ?_
      rintro e w6 ⟨rfl, hb'⟩
      replace hk := bel_trans hk hb'
      clear hc
      obtain ⟨hc, _⟩ := bcell hk
      clear hb'
      go_wp2_with fail
      with_reducible refine (C6.out _).mono ?_
      rintro e w7 ⟨rfl, hb'⟩
      replace hk := bel_trans hk hb'
      clear hc
      obtain ⟨hc, _⟩ := bcell hk
      clear hb'
      go_wp2_with fail
      all_goals (go_ret; exact ⟨rfl, bel_trans hb hk⟩)
theorem Reads.two {w : World} {cs : List Value} (h : Reads Try.prog w 25 cs) : ∃ (a b : Lay) (i k : Int), cs = a.cells ++ b.cells ++ [Value.int .i64 i, Value.int .i64 k] := by
  obtain ⟨hl, hf⟩ := h.struct Try.underlying25
  rw [show Try.prog.cellsOf 25 = 10 from by kernel_rfl] at hl
  simp only [List.mem_cons, List.not_mem_nil, or_false, forall_eq_or_imp, forall_eq, show Try.prog.cellsOf 3 = 1 from by kernel_rfl, show Try.prog.cellsOf 23 = 4 from by kernel_rfl] at hf
  obtain ⟨f0, f1, f2, f3⟩ := hf
  obtain ⟨a, e0, _⟩ := f0.lay
  obtain ⟨b, e1, _⟩ := f1.lay
  obtain ⟨i, e2, _⟩ := f2.int Try.underlying3
  obtain ⟨k, e3, _⟩ := f3.int Try.underlying3
  refine ⟨a, b, i, k, ?_⟩
  match cs, hl with
  | [x0, x1, x2, x3, x4, x5, x6, x7, x8, x9], _ =>
    simp [Lay.cells] at e0 e1 e2 e3 ⊢
    simp [e0, e1, e2, e3]
theorem walkGeometryOverlap (v0 : Value) (w : World) (base : Nat)
    (o0 : Value.okWide Try.prog w .any base 25 v0) (r0 : Reads Try.prog w 25 v0.cells.toList) :
    Calls Try.prog 3 #[v0] w fun e w' => e = .returned (.bool true) ∧ Below w.heap.size w w' := by
  obtain ⟨cs, rfl, _⟩ := okWide_struct Try.underlying25 o0
  obtain ⟨a, b, i, k, hl⟩ := r0.two
  have : cs = (a.cells ++ b.cells ++ [Value.int .i64 i, Value.int .i64 k]).toArray := by rw [← hl]; simp [Value.cells]
  rw [this]
  exact ovlaw a.id a.ver a.rs a.rg b.id b.ver b.rs b.rg i k w
set_option maxRecDepth 100000 in
theorem liftedGeometryOverlap (os : Os) (started : os.Started) (H : Type) (enc : TypeId × Value → H) :
    ReturnsInHanded {} Try.checked os 3 .any (Rows.geometryOverlapSpec.pre6 enc Try.prog Try.f3 Rows.geometryOverlapRow.domain false) (Rows.geometryOverlapSpec.post enc Try.prog Try.f3 false true false false) := by
  refine returnsInHanded_of_change (C := Try.checked) own started (by kernel_rfl) Try.func3
    (ChangeSpec.witness6 (enc := enc) (C := Try.checked) false ⟨#[], #[.agg #[.int .i64 0, .int .i64 0, .int .i64 0, .int .i64 0, .int .i64 0, .int .i64 0, .int .i64 0, .int .i64 0, .int .i64 0, .int .i64 0]], []⟩ 8 (by kernel_rfl) (by kernel_rfl) (by kernel_rfl) (by kernel_rfl)) ?_
  intro W base args ds gs before hval0 hW hcnd _
  have hval : ∀ (j : Nat) t v, Try.f3.params[j]? = some t → args[j]? = some v → Value.okWide Try.prog W .any base t v := hval0
  have hW' := hW
  obtain ⟨p, q, hA0, hV, rfl, hfz, hnd⟩ := hW
  have hA : DataW.TrodAll enc Try.prog W 0 (fun _ => true) true Try.f3.params.toList args.toList ds p := hA0
  rw [Try.params3] at hA hval
  obtain ⟨v0, vs0, d0, ds0, p0, q0, hargs, rfl, rfl, h0, r0⟩ := trodAll_cons hA
  obtain ⟨rfl, rfl, rfl⟩ := trodAll_nil r0
  obtain rfl : args = #[v0] := by cases args; simp_all
  obtain ⟨rfl, rfl⟩ := trodVars_none hV
  have lt0 : ∀ x ∈ p0, x.block < W.heap.size := by obtain ⟨m, hm⟩ := h0; exact DataW.trod_lt m _ _ _ hm
  clear hA0 hval0
  refine (walkGeometryOverlap v0 W base (hval 0 25 v0 rfl rfl) (Reads.of h0)).mono fun e W' ⟨he, bel⟩ => ?_
  subst he
  exact ⟨_, rfl, _, _, _, [], _, [], hW', trodAll_mk1 (shut_bool Try.underlying4 _), (trodAll_cons_mk (Below.trod laidOut (by kernel_rfl) (of_decide_eq_true (by kernel_rfl)) h0 bel lt0) trodAll_mk0), rfl, bel.frame _, fun h => by cases h⟩

theorem overGeometryOverlap : Rows.geometryOverlapRow.holds Try.pinned (OpenSpec.ofChange Rows.geometryOverlapSpec) :=
  OpenClaim.holds_of_wide 3 Try.f3 rfl rfl rfl rfl rfl rfl rfl ⟨rfl, rfl, rfl, rfl, rfl⟩ rfl rfl rfl rfl rfl (by kernel_rfl) Try.func3 (by kernel_rfl)
    (of_decide_eq_true (by kernel_rfl)) (by unfold Func.isWrapper; first | (rw [if_pos (by decide +kernel)]; kernel_rfl) | (rw [if_neg (by decide +kernel)]; exact ⟨rfl, rfl⟩))
    (fun os started H enc _ => liftedGeometryOverlap os started H enc)

/-- The statement. -/
theorem geometryOverlap_holds : Rows.GeometryOverlapSaid := overGeometryOverlap
#print axioms geometryOverlap_holds
end Go.Proofs.Ytolfepbelekcoaa
