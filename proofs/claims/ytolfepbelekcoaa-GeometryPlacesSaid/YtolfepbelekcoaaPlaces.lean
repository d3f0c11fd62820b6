/-
  GeometryPlaces: First, Capacity and Fits agree with the sectors of the slots, for every layout. No condition.
-/
import Derived.Test.YtolfepbelekcoaaLaw12a
namespace Go.Proofs.Ytolfepbelekcoaa
open Go.RowKit Go.ChangeShapes Go.WideShapes Go.ChangeAt
set_option linter.unusedVariables false
set_option maxHeartbeats 2000000 in
theorem places_bad (id ver rs rg i n : Int) (w : World) (hf : formB ⟨id, ver, rs, rg⟩ = false) :
    Calls Try.prog 5 #[.agg #[.int .i64 id, .int .i64 ver, .int .i64 rs, .int .i64 rg], .int .i64 i, .int .i64 n] w fun e w' => e = .returned (.bool true) ∧ Below w.heap.size w w' := by
  have c1 := fun W => sectors9 id ver rs rg i W
  have c2 := fun W => first13 id ver rs rg i W
  have c3 := fun W => refform12 id ver rs rg W
  have c4 := fun W => capacity14 id ver rs rg W
  have c5 := fun W => fits15 id ver rs rg n W
  rw [show sectorsL ⟨id, ver, rs, rg⟩ i = [] from by unfold sectorsL; rw [hf]; simp] at c1
  rw [show firstD ⟨id, ver, rs, rg⟩ i = -1 from by unfold firstD; rw [hf]; simp] at c2
  rw [hf] at c3
  rw [show capD ⟨id, ver, rs, rg⟩ = 0 from by unfold capD; rw [hf]; simp] at c4
  rw [show fitsB ⟨id, ver, rs, rg⟩ n = false from by unfold fitsB; rw [hf]; simp] at c5
  have S := Lib.hid c1; have C2 := Lib.hid c2; have C3 := Lib.hid c3; have C4 := Lib.hid c4; have C5 := Lib.hid c5
  clear c1 c2 c3 c4 c5 hf
  go_enter Try.func5, Try.ntmps5
  go_wp2_with fail
  with_reducible refine (S.out _).mono ?_
  rintro e w1 ⟨v, rfl, hown, hb⟩
  obtain ⟨a, cp, rfl, _, _, _⟩ := ownsRow_elems (zs := []) hown
  clear hown
  obtain ⟨hc, _⟩ := bcell hb
  simp only [List.length_nil]
  go_wp2_with fail
  with_reducible refine (C2.out _).mono ?_
  rintro e w2 ⟨rfl, hb'⟩
  replace hb := bel_trans hb hb'
  clear hc hb'
  obtain ⟨hc, _⟩ := bcell hb
  go_wp2_with fail
  with_reducible refine (C3.out _).mono ?_
  rintro e w3 ⟨rfl, hb'⟩
  replace hb := bel_trans hb hb'
  clear hc hb'
  obtain ⟨hc, _⟩ := bcell hb
  go_wp2_with fail
  with_reducible refine (awake12 _).mono ?_
  rintro e w4 ⟨rfl, hb'⟩
  replace hb := bel_trans hb hb'
  clear hc hb'
  obtain ⟨hc, _⟩ := bcell hb
  go_wp2_with fail
  with_reducible refine (C4.out _).mono ?_
  rintro e w5 ⟨rfl, hb'⟩
  replace hb := bel_trans hb hb'
  clear hc hb'
  obtain ⟨hc, _⟩ := bcell hb
  go_wp2_with fail
  with_reducible refine (C5.out _).mono ?_
  rintro e w6 ⟨rfl, hb'⟩
  replace hb := bel_trans hb hb'
  clear hc hb'
  obtain ⟨hc, _⟩ := bcell hb
  go_wp2_with fail
  go_ret
  exact ⟨rfl, bel1 hb⟩
set_option maxHeartbeats 2000000 in
theorem places_out (id ver rs rg i n : Int) (w : World) (hf : formB ⟨id, ver, rs, rg⟩ = true) (h : ¬ (0 ≤ i ∧ i < rg)) :
    Calls Try.prog 5 #[.agg #[.int .i64 id, .int .i64 ver, .int .i64 rs, .int .i64 rg], .int .i64 i, .int .i64 n] w fun e w' => e = .returned (.bool true) ∧ Below w.heap.size w w' := by
  have c1 := fun W => sectors9 id ver rs rg i W
  have c2 := fun W => first13 id ver rs rg i W
  have c3 := fun W => refform12 id ver rs rg W
  have c4 := fun W => capacity14 id ver rs rg W
  have c5 := fun W => fits15 id ver rs rg n W
  rw [show sectorsL ⟨id, ver, rs, rg⟩ i = [] from by unfold sectorsL; rw [if_neg (fun k => h k.2)]] at c1
  rw [show firstD ⟨id, ver, rs, rg⟩ i = -1 from by unfold firstD; rw [if_neg (fun k => h k.2)]] at c2
  clear h
  rw [hf] at c3
  rw [show capD ⟨id, ver, rs, rg⟩ = 59 * (rs - 1) from by unfold capD; rw [if_pos hf]; simp only; omega] at c4
  rw [show fitsB ⟨id, ver, rs, rg⟩ n = decide (74 + rg * rs ≤ n) from by unfold fitsB; rw [hf]; rfl] at c5
  obtain ⟨_, _, r1, r2, g1, g2⟩ := formB_rng hf
  simp only at r1 r2 g1 g2
  obtain ⟨m1, m2⟩ := mul_rng2 g1 g2 r1 r2
  have S := Lib.hid c1; have C2 := Lib.hid c2; have C3 := Lib.hid c3; have C4 := Lib.hid c4; have C5 := Lib.hid c5
  clear c1 c2 c3 c4 c5 hf
  go_enter Try.func5, Try.ntmps5
  go_wp2_with fail
  with_reducible refine (S.out _).mono ?_
  rintro e w1 ⟨v, rfl, hown, hb⟩
  obtain ⟨a, cp, rfl, _, _, _⟩ := ownsRow_elems (zs := []) hown
  clear hown
  obtain ⟨hc, _⟩ := bcell hb
  simp only [List.length_nil]
  go_wp2_with fail
  with_reducible refine (C2.out _).mono ?_
  rintro e w2 ⟨rfl, hb'⟩
  replace hb := bel_trans hb hb'
  clear hc hb'
  obtain ⟨hc, _⟩ := bcell hb
  go_wp2_with fail
  with_reducible refine (C3.out _).mono ?_
  rintro e w3 ⟨rfl, hb'⟩
  replace hb := bel_trans hb hb'
  clear hc hb'
  obtain ⟨hc, _⟩ := bcell hb
  go_wp2_with fail
  have hz : w.heap.size < w3.heap.size := by have := hb.size; simp at this; omega
  have hx := fun (x : Ext w3.heap.size w3) b o h => Ext.cell x b o h
  refine wp_region_ext w3.heap.size (by kernel_rfl) (by kernel_rfl) ?_
  repeat (go_big_quiet_step (first | (go_at_call 10; with_reducible exact Calls.ext (Nat.le_refl _) (awake12 _)) | (go_at_call 14; with_reducible exact Calls.ext (Nat.le_refl _) (C4.out _)) | (go_at_call 15; with_reducible exact Calls.ext (Nat.le_refl _) (C5.out _)) | (with_reducible exact rfl)))
  refine wpQuiet_nil ?_
  rintro _ ⟨⟨w4, hb'⟩, rfl⟩
  replace hb := bel_trans hb hb'
  clear hc hx hb'
  go_wp2_with fail
  go_ret
  exact ⟨rfl, bel1 hb⟩
set_option maxHeartbeats 2000000 in
theorem places_in (id ver rs rg i n : Int) (w : World) (hf : formB ⟨id, ver, rs, rg⟩ = true) (h0 : 0 ≤ i) (h1 : i < rg) :
    Calls Try.prog 5 #[.agg #[.int .i64 id, .int .i64 ver, .int .i64 rs, .int .i64 rg], .int .i64 i, .int .i64 n] w fun e w' => e = .returned (.bool true) ∧ Below w.heap.size w w' := by
  have c1 := fun W => sectors9 id ver rs rg i W
  have c2 := fun W => first13 id ver rs rg i W
  have c3 := fun W => refform12 id ver rs rg W
  have c4 := fun W => capacity14 id ver rs rg W
  have c5 := fun W => fits15 id ver rs rg n W
  obtain ⟨_, _, r1, r2, g1, g2⟩ := formB_rng hf
  simp only at r1 r2 g1 g2
  have hsec : ∃ x zs, sectorsL ⟨id, ver, rs, rg⟩ i = x :: zs ∧ firstD ⟨id, ver, rs, rg⟩ i = x := by
    obtain ⟨r, hr⟩ : ∃ r : Nat, rs.toNat = r + 1 := ⟨rs.toNat - 1, by omega⟩
    refine ⟨74 + i * rs, (List.range r).map (fun k : Nat => 74 + i * rs + ((k + 1 : Nat) : Int)), ?_, ?_⟩
    · unfold sectorsL; rw [if_pos ⟨hf, h0, h1⟩]; simp only; rw [hr, List.range_succ_eq_map]; simp [Function.comp_def]
    · unfold firstD; rw [if_pos ⟨hf, h0, h1⟩]
  obtain ⟨x, zs, e1, e2⟩ := hsec
  rw [e1] at c1
  rw [e2] at c2
  clear e1 e2 h0 h1
  rw [hf] at c3
  rw [show capD ⟨id, ver, rs, rg⟩ = 59 * (rs - 1) from by unfold capD; rw [if_pos hf]; simp only; omega] at c4
  rw [show fitsB ⟨id, ver, rs, rg⟩ n = decide (74 + rg * rs ≤ n) from by unfold fitsB; rw [hf]; rfl] at c5
  obtain ⟨m1, m2⟩ := mul_rng2 g1 g2 r1 r2
  have S := Lib.hid c1; have C2 := Lib.hid c2; have C3 := Lib.hid c3; have C4 := Lib.hid c4; have C5 := Lib.hid c5
  clear c1 c2 c3 c4 c5 hf
  go_enter Try.func5, Try.ntmps5
  go_wp2_with fail
  with_reducible refine (S.out _).mono ?_
  rintro e w1 ⟨v, rfl, hown, hb⟩
  obtain ⟨a, cp, rfl, he, hcp, hmx⟩ := ownsRow_elems hown
  clear hown
  unfold maxLen at hmx
  obtain ⟨b0, o0, rfl, hlt0, hx0⟩ := he 0 (by simp)
  simp only [List.getElem?_cons_zero, Option.getD_some] at hx0
  clear he
  simp only [List.length_cons] at hcp ⊢
  obtain ⟨L, hL, hL0⟩ : ∃ L : Nat, zs.length + 1 = L ∧ 0 < L := ⟨_, rfl, by omega⟩
  rw [hL] at hcp ⊢
  clear hL
  rw [Nat.add_zero] at hx0
  have hcm : ((L : Int) == 0) = false := by rw [beq_eq_false_iff_ne]; omega
  obtain ⟨hc, _⟩ := bcell hb
  go_wp2_with fail
  with_reducible refine (C2.out _).mono ?_
  rintro e w2 ⟨rfl, hb'⟩
  replace hx0 : w2.cell? ⟨b0, o0, none⟩ = some (.int .i64 x) := by rw [hb'.cell hlt0]; exact hx0
  replace hb := bel_trans hb hb'
  clear hc hb'
  obtain ⟨hc, _⟩ := bcell hb
  go_wp2_with fail
  with_reducible refine (C3.out _).mono ?_
  rintro e w3 ⟨rfl, hb'⟩
  replace hb := bel_trans hb hb'
  clear hc hb'
  obtain ⟨hc, _⟩ := bcell hb
  go_wp2_with fail
  have hz : w.heap.size < w3.heap.size := by have := hb.size; simp at this; omega
  have hx := fun (x : Ext w3.heap.size w3) b o h => Ext.cell x b o h
  refine wp_region_ext w3.heap.size (by kernel_rfl) (by kernel_rfl) ?_
  repeat (go_big_quiet_step (first | (go_at_call 10; with_reducible exact Calls.ext (Nat.le_refl _) (awake12 _)) | (go_at_call 14; with_reducible exact Calls.ext (Nat.le_refl _) (C4.out _)) | (go_at_call 15; with_reducible exact Calls.ext (Nat.le_refl _) (C5.out _)) | (with_reducible exact rfl)))
  refine wpQuiet_nil ?_
  rintro _ ⟨⟨w4, hb'⟩, rfl⟩
  replace hb := bel_trans hb hb'
  clear hc hx hb'
  go_wp2_with fail
  go_ret
  exact ⟨rfl, bel1 hb⟩
end Go.Proofs.Ytolfepbelekcoaa
