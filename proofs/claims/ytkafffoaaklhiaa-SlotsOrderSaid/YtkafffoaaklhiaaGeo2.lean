/-
  Contracts of package geometry: Capacity, Fits, Overlap.
-/
import Derived.Test.YtkafffoaaklhiaaGeo
namespace Go.Proofs.Ytkafffoaaklhiaa
open Go.RowKit
def overlapB (a : Lay) (i : Int) (b : Lay) (k : Int) : Bool :=
  decide (0 ≤ firstD a i ∧ 0 ≤ firstD b k ∧ firstD a i < firstD b k + b.rs ∧ firstD b k < firstD a i + a.rs)
theorem firstD_rng (l : Lay) (i : Int) : firstD l i = -1 ∨ (74 ≤ firstD l i ∧ firstD l i ≤ 30794 ∧ 2 ≤ l.rs ∧ l.rs ≤ 2048) := by
  unfold firstD
  by_cases h : formB l = true ∧ 0 ≤ i ∧ i < l.rg
  · rw [if_pos h]
    obtain ⟨hb, h0, h1⟩ := h
    obtain ⟨_, _, r1, r2, _, g2⟩ := formB_rng hb
    have := mul_rng h0 (by omega) r1 r2
    right; omega
  · rw [if_neg h]; exact .inl rfl
theorem wrap_small (n : Int) (h : -1000000 ≤ n ∧ n ≤ 1000000) : wrap64 n = n := IntWalk.wrap64_in _ ⟨by omega, by omega⟩
set_option maxHeartbeats 1000000 in
theorem overlap8 (id ver rs rg i id2 ver2 rs2 rg2 k : Int) (w : World) :
    Calls Try.prog 42 #[.agg #[.int .i64 id, .int .i64 ver, .int .i64 rs, .int .i64 rg], .int .i64 i, .agg #[.int .i64 id2, .int .i64 ver2, .int .i64 rs2, .int .i64 rg2], .int .i64 k] w
      fun e w' => e = .returned (.bool (overlapB ⟨id, ver, rs, rg⟩ i ⟨id2, ver2, rs2, rg2⟩ k)) ∧ Below w.heap.size w w' := by
  have HO := Lib.hid (show overlapB ⟨id, ver, rs, rg⟩ i ⟨id2, ver2, rs2, rg2⟩ k = true ↔ _ from decide_eq_true_iff)
  have r1 := firstD_rng ⟨id, ver, rs, rg⟩ i
  have r2 := firstD_rng ⟨id2, ver2, rs2, rg2⟩ k
  generalize overlapB ⟨id, ver, rs, rg⟩ i ⟨id2, ver2, rs2, rg2⟩ k = O at *
  have f1 := fun W => first13 id ver rs rg i W
  have f2 := fun W => first13 id2 ver2 rs2 rg2 k W
  generalize firstD ⟨id, ver, rs, rg⟩ i = x at *
  generalize firstD ⟨id2, ver2, rs2, rg2⟩ k = y at *
  have F1 := Lib.hid f1
  have F2 := Lib.hid f2
  simp only at r1 r2 HO
  have w1 : x < 0 ∨ wrap64 (x + rs) = x + rs := by
    rcases r1 with r1 | r1
    · left; omega
    · right; exact wrap_small _ (by omega)
  have w2 : y < 0 ∨ wrap64 (y + rs2) = y + rs2 := by
    rcases r2 with r2 | r2
    · left; omega
    · right; exact wrap_small _ (by omega)
  have W1 := Lib.hid w1
  have W2 := Lib.hid w2
  clear f1 f2 r1 r2 w1 w2
  go_enter Try.func42, Try.ntmps42
  go_wp2_with fail
  refine wp_region_ext (w.heap.size + 2) (by kernel_rfl) (by kernel_rfl) ?_
  have hx := fun (x : Ext (w.heap.size + 2) ((w.alloc (.cells #[.int .i64 id, .int .i64 ver, .int .i64 rs, .int .i64 rg] 23)).alloc (.cells #[.int .i64 id2, .int .i64 ver2, .int .i64 rs2, .int .i64 rg2] 23))) b o h => Ext.cell x b o h
  repeat (go_big_quiet_step (first | (go_at_call 47; first | (with_reducible exact Calls.ext (by simp) (F1.out _)) | (with_reducible exact Calls.ext (by simp) (F2.out _))) | (with_reducible exact rfl)))
  refine wpQuiet_nil ?_
  rintro _ ⟨⟨w1, hb⟩, rfl⟩
  clear hx
  obtain ⟨hc, _⟩ := bcell hb
  go_wp2
  all_goals
    have h1 := W1.out
    have h2 := W2.out
    go_ret
    refine ⟨ret_bool ?_, bel2 (by simpa using hb)⟩
    rw [Bool.eq_iff_iff, HO.out]
    try simp only [decide_eq_true_eq, Bool.false_eq_true, false_iff]
    omega
end Go.Proofs.Ytkafffoaaklhiaa
