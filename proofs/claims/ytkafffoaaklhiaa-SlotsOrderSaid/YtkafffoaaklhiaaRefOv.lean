/-
  The reference's Overlap computes the same as geometry.Overlap.
-/
import Derived.Test.YtkafffoaaklhiaaGeo3
import Derived.Deep.DeepCutAuto
import Derived.WalkSmall
import Derived.Deep.RegionHeld3
namespace Go.Proofs.Ytkafffoaaklhiaa
open Go.RowKit
theorem keepS {n : Nat} {W0 W w' : World} (h : (∀ b o, b < n → W.cell? ⟨b, o, none⟩ = W0.cell? ⟨b, o, none⟩) ∧ Below n W0 W) (h0 : n ≤ W0.heap.size) (hb : Below W.heap.size W w') :
    (∀ b o, b < n → w'.cell? ⟨b, o, none⟩ = W0.cell? ⟨b, o, none⟩) ∧ Below n W0 w' := by
  have k := h.2.trans (hb.mono (Nat.le_trans h0 h.2.size))
  exact ⟨fun b o hlt => k.cell (p := ⟨b, o, none⟩) hlt, k⟩
theorem sect_cases (l : Lay) (i : Int) : (sectorsL l i = [] ∧ firstD l i = -1) ∨
    (0 < (sectorsL l i).length ∧ (sectorsL l i).length ≤ 2048 ∧ 74 ≤ firstD l i ∧ firstD l i ≤ 30794 ∧ (sectorsL l i)[0]?.getD 0 = firstD l i ∧ (sectorsL l i)[(sectorsL l i).length - 1]?.getD 0 = firstD l i + l.rs - 1 ∧ 2 ≤ l.rs ∧ l.rs ≤ 2048) := by
  have hr := firstD_rng l i
  by_cases h : formB l = true ∧ 0 ≤ i ∧ i < l.rg
  · right
    obtain ⟨_, _, r1, r2, _, _⟩ := formB_rng h.1
    have e1 : sectorsL l i = (List.range l.rs.toNat).map (fun k : Nat => 74 + i * l.rs + (k : Int)) := by unfold sectorsL; rw [if_pos h]
    have e2 : firstD l i = 74 + i * l.rs := by unfold firstD; rw [if_pos h]
    have hl : (sectorsL l i).length = l.rs.toNat := by rw [e1]; simp
    have hm := Int.mul_nonneg h.2.1 (show 0 ≤ l.rs by omega)
    refine ⟨by omega, by omega, by omega, by omega, ?_, ?_, r1, r2⟩
    · rw [e2, e1, List.getElem?_map, List.getElem?_range (by omega)]; simp
    · rw [hl, e2, e1, List.getElem?_map, List.getElem?_range (by omega)]
      simp only [Option.map_some, Option.getD_some]; omega
  · left
    exact ⟨by unfold sectorsL; rw [if_neg h], by unfold firstD; rw [if_neg h]⟩
set_option maxHeartbeats 2000000 in
theorem refov11 (id ver rs rg i id2 ver2 rs2 rg2 k : Int) (w : World) :
    Calls Try.prog 17 #[.agg #[.int .i64 id, .int .i64 ver, .int .i64 rs, .int .i64 rg], .int .i64 i, .agg #[.int .i64 id2, .int .i64 ver2, .int .i64 rs2, .int .i64 rg2], .int .i64 k] w
      fun e w' => e = .returned (.bool (overlapB ⟨id, ver, rs, rg⟩ i ⟨id2, ver2, rs2, rg2⟩ k)) ∧ Below w.heap.size w w' := by
  have f1 := fun W => sectors9 id ver rs rg i W
  have f2 := fun W => sectors9 id2 ver2 rs2 rg2 k W
  have HO := Lib.hid (show overlapB ⟨id, ver, rs, rg⟩ i ⟨id2, ver2, rs2, rg2⟩ k = true ↔ _ from decide_eq_true_iff)
  have r1 := sect_cases ⟨id, ver, rs, rg⟩ i
  have r2 := sect_cases ⟨id2, ver2, rs2, rg2⟩ k
  generalize overlapB ⟨id, ver, rs, rg⟩ i ⟨id2, ver2, rs2, rg2⟩ k = O at *
  generalize firstD ⟨id, ver, rs, rg⟩ i = x at *
  generalize firstD ⟨id2, ver2, rs2, rg2⟩ k = y at *
  generalize sectorsL ⟨id, ver, rs, rg⟩ i = xs at *
  generalize sectorsL ⟨id2, ver2, rs2, rg2⟩ k = ys at *
  simp only at r1 r2 HO
  have R1 := Lib.hid r1
  have R2 := Lib.hid r2
  clear r1 r2
  have F1 := Lib.hid f1
  have F2 := Lib.hid f2
  clear f1 f2
  go_enter Try.func17, Try.ntmps17
  go_upto_region 1 with fail
  go_cut [9, 10] (fun u v wx => ∃ a1 c1 a2 c2, u = .slice a1 xs.length c1 ∧ v = .slice a2 ys.length c2 ∧ Elems .i64 wx a1 xs.length xs ∧ Elems .i64 wx a2 ys.length ys ∧ Below (w.heap.size + 2) ((w.alloc (.cells #[.int .i64 id, .int .i64 ver, .int .i64 rs, .int .i64 rg] 23)).alloc (.cells #[.int .i64 id2, .int .i64 ver2, .int .i64 rs2, .int .i64 rg2] 23)) wx)
  case first =>
    go_region_held3 (fun w' => (∀ b o, b < w.heap.size + 2 → w'.cell? ⟨b, o, none⟩ = ((w.alloc (.cells #[.int .i64 id, .int .i64 ver, .int .i64 rs, .int .i64 rg] 23)).alloc (.cells #[.int .i64 id2, .int .i64 ver2, .int .i64 rs2, .int .i64 rg2] 23)).cell? ⟨b, o, none⟩) ∧ Below (w.heap.size + 2) ((w.alloc (.cells #[.int .i64 id, .int .i64 ver, .int .i64 rs, .int .i64 rg] 23)).alloc (.cells #[.int .i64 id2, .int .i64 ver2, .int .i64 rs2, .int .i64 rg2] 23)) w')
      (first | exact ⟨fun _ _ _ => rfl, (Below.refl _ _).drew⟩ | exact keepS (n := w.heap.size + 2) (by assumption) (by simp) hb2 | exact keepS (n := w.heap.size + 2) (by assumption) (by simp) hb1)
      (first
        | (go_at_call 33; (with_reducible refine (F1.out _).mono ?_); rintro e w1 ⟨v1, rfl, hown1, hb1⟩)
        | (go_at_call 33; (with_reducible refine (F2.out _).mono ?_); rintro e w2 ⟨v2, rfl, hown2, hb2⟩))
    go_wp2_with fail
    go_meet
    obtain ⟨a1, c1, rfl, he1, _, _⟩ := ownsRow_elems hown1
    obtain ⟨a2, c2, rfl, he2, _, _⟩ := ownsRow_elems hown2
    exact ⟨a1, c1, a2, c2, rfl, rfl, he1.below hb2 (Nat.le_refl _), he2, (by assumption : _ ∧ _).2⟩
  case rest =>
    obtain ⟨a1, c1, a2, c2, rfl, rfl, he1, he2, hb⟩ := hcut
    have E1 := Lib.hid he1
    have E2 := Lib.hid he2
    have B := Lib.hid (bel2 (by simpa using hb) : Below w.heap.size w wc)
    clear he1 he2 hb F1 F2
    have r1 := R1.out
    have r2 := R2.out
    rcases r1 with ⟨rfl, rfl⟩ | ⟨m0, m1, x0, x1, gx0, gx1, s0, s1⟩
    · clear r2
      simp only [List.length_nil]
      go_wp2
      go_ret
      exact ⟨ret_bool (by rw [Bool.eq_iff_iff, HO.out]; simp), B.out⟩
    rcases r2 with ⟨rfl, rfl⟩ | ⟨n0, n1, y0, y1, gy0, gy1, t0, t1⟩
    · clear gx0 gx1
      simp only [List.length_nil]
      have hm : ((xs.length : Int) == 0) = false := by rw [beq_eq_false_iff_ne]; omega
      go_wp2
      go_ret
      exact ⟨ret_bool (by rw [Bool.eq_iff_iff, HO.out]; simp), B.out⟩
    obtain ⟨b1, o1, rfl, _, p0⟩ := E1.out 0 m0
    obtain ⟨b1', o1', ha1, _, p1⟩ := E1.out (xs.length - 1) (by omega)
    obtain ⟨b2, o2, rfl, _, q0⟩ := E2.out 0 n0
    obtain ⟨b2', o2', ha2, _, q1⟩ := E2.out (ys.length - 1) (by omega)
    simp only [Option.some.injEq, Addr.mk.injEq, and_true] at ha1 ha2
    obtain ⟨rfl, rfl⟩ := ha1
    obtain ⟨rfl, rfl⟩ := ha2
    rw [gx0, Nat.add_zero] at p0
    rw [gx1] at p1
    rw [gy0, Nat.add_zero] at q0
    rw [gy1] at q1
    have hm : ((xs.length : Int) == 0) = false := by rw [beq_eq_false_iff_ne]; omega
    have hn : ((ys.length : Int) == 0) = false := by rw [beq_eq_false_iff_ne]; omega
    clear gx0 gx1 gy0 gy1 R1 R2 E1 E2
    generalize xs.length = m at *
    generalize ys.length = n at *
    go_wp2_with fail
    have i0 : (0 : Int) < m := by omega
    have i1 : (0 : Int) < n := by omega
    have i2 : (m : Int) - 1 < m := by omega
    have i3 : (n : Int) - 1 < n := by omega
    have i4 : (0 : Int) ≤ (m : Int) - 1 := by omega
    have i5 : (0 : Int) ≤ (n : Int) - 1 := by omega
    by_cases h1 : x ≤ y + rs2 - 1
    · have d1 : decide (x ≤ y + rs2 - 1) = true := by simpa using h1
      go_quiet (fail)
      go_wp2_with fail
      go_ret
      exact ⟨ret_bool (by rw [Bool.eq_iff_iff, HO.out, decide_eq_true_eq]; omega), below_drewN B.out _⟩
    · have d1 : decide (x ≤ y + rs2 - 1) = false := by simpa using h1
      go_quiet (fail)
      go_wp2_with fail
      go_ret
      exact ⟨ret_bool (by rw [Bool.eq_iff_iff, HO.out]; simp; omega), below_drewN B.out _⟩
end Go.Proofs.Ytkafffoaaklhiaa
