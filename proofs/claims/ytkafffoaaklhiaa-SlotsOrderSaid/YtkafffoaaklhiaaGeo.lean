/-
  Contracts of package geometry: First, Capacity, Fits, Overlap, as functions of a layout's four numbers.
-/
import Derived.Test.YtkafffoaaklhiaaForm
namespace Go.Proofs.Ytkafffoaaklhiaa
open Go.RowKit
def firstD (l : Lay) (i : Int) : Int := if formB l = true ∧ 0 ≤ i ∧ i < l.rg then 74 + i * l.rs else -1
theorem formB_rng {l : Lay} (h : formB l = true) : 1 ≤ l.id ∧ l.id ≤ 4294967295 ∧ 2 ≤ l.rs ∧ l.rs ≤ 2048 ∧ 4 ≤ l.rg ∧ l.rg ≤ 16 := by
  obtain ⟨a, b, c, d⟩ := l
  have := (formB_iff a b c d).1 h
  exact ⟨this.1, this.2.1, this.2.2.2.1, this.2.2.2.2.1, this.2.2.2.2.2.2.1, this.2.2.2.2.2.2.2⟩
theorem mul_rng {i r : Int} (h0 : 0 ≤ i) (h1 : i < 16) (h2 : 2 ≤ r) (h3 : r ≤ 2048) : 0 ≤ i * r ∧ i * r ≤ 30720 := by
  refine ⟨Int.mul_nonneg h0 (by omega), ?_⟩
  have := Int.mul_le_mul (show i ≤ 15 by omega) h3 (by omega) (by omega)
  omega
set_option maxHeartbeats 1000000 in
theorem first13 (id ver rs rg i : Int) (w : World) :
    Calls Try.prog 47 #[.agg #[.int .i64 id, .int .i64 ver, .int .i64 rs, .int .i64 rg], .int .i64 i] w fun e w' => e = .returned (.int .i64 (firstD ⟨id, ver, rs, rg⟩ i)) ∧ Below w.heap.size w w' := by
  have hf := fun W => form20 id ver rs rg W
  by_cases hb : formB ⟨id, ver, rs, rg⟩ = true
  · rw [hb] at hf
    have HF := Lib.hid hf
    clear hf
    obtain ⟨_, _, r1, r2, g1, g2⟩ := formB_rng hb
    simp only at r1 r2 g1 g2
    by_cases h0 : i < 0
    · have d0 : decide (i < 0) = true := by simpa using h0
      have e : firstD ⟨id, ver, rs, rg⟩ i = -1 := by unfold firstD; rw [if_neg (by rintro ⟨_, h, _⟩; omega)]
      have E := Lib.hid e
      clear e hb
      go_enter Try.func47, Try.ntmps47
      go_wp2_with fail
      with_reducible refine (HF.out _).mono ?_
      rintro e w1 ⟨rfl, hb⟩
      obtain ⟨hc, _⟩ := bcell hb
      go_wp2_with fail
      go_ret
      exact ⟨ret_int E.out.symm, bel1 hb⟩
    by_cases h1 : rg ≤ i
    · have d0 : decide (i < 0) = false := by simpa using h0
      have d1 : decide (rg ≤ i) = true := by simpa using h1
      have e : firstD ⟨id, ver, rs, rg⟩ i = -1 := by unfold firstD; rw [if_neg (by rintro ⟨_, _, h⟩; simp only at h; omega)]
      have E := Lib.hid e
      clear e hb
      go_enter Try.func47, Try.ntmps47
      go_wp2_with fail
      with_reducible refine (HF.out _).mono ?_
      rintro e w1 ⟨rfl, hb⟩
      obtain ⟨hc, _⟩ := bcell hb
      go_wp2_with fail
      go_ret
      exact ⟨ret_int E.out.symm, bel1 hb⟩
    have d0 : decide (i < 0) = false := by simpa using h0
    have d1 : decide (rg ≤ i) = false := by simpa using h1
    have e : firstD ⟨id, ver, rs, rg⟩ i = 74 + i * rs := by unfold firstD; rw [if_pos ⟨hb, by omega, by simp only; omega⟩]
    obtain ⟨m1, m2⟩ := mul_rng (i := i) (r := rs) (by omega) (by omega) r1 r2
    have E := Lib.hid e
    clear e hb
    go_enter Try.func47, Try.ntmps47
    go_wp2_with fail
    with_reducible refine (HF.out _).mono ?_
    rintro e w1 ⟨rfl, hb⟩
    obtain ⟨hc, _⟩ := bcell hb
    go_wp2_with fail
    go_ret
    exact ⟨ret_int E.out.symm, bel1 hb⟩
  · have hb' : formB ⟨id, ver, rs, rg⟩ = false := by simpa using hb
    rw [hb'] at hf
    have HF := Lib.hid hf
    clear hf
    have e : firstD ⟨id, ver, rs, rg⟩ i = -1 := by unfold firstD; rw [if_neg (by rintro ⟨h, _⟩; exact hb h)]
    have E := Lib.hid e
    clear e hb hb'
    go_enter Try.func47, Try.ntmps47
    go_wp2_with fail
    with_reducible refine (HF.out _).mono ?_
    rintro e w1 ⟨rfl, hb⟩
    obtain ⟨hc, _⟩ := bcell hb
    go_wp2_with fail
    go_ret
    exact ⟨ret_int E.out.symm, bel1 hb⟩
end Go.Proofs.Ytkafffoaaklhiaa
