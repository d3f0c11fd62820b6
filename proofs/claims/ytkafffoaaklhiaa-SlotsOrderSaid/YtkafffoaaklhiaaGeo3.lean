/-
  Contracts of Capacity, Fits and of the reference's Sectors.
-/
import Derived.Test.YtkafffoaaklhiaaGeo2
namespace Go.Proofs.Ytkafffoaaklhiaa
open Go.RowKit
def capD (l : Lay) : Int := if formB l = true then (l.rs - 1) * 59 else 0
set_option maxHeartbeats 1000000 in
theorem capacity14 (id ver rs rg : Int) (w : World) :
    Calls Try.prog 29 #[.agg #[.int .i64 id, .int .i64 ver, .int .i64 rs, .int .i64 rg]] w fun e w' => e = .returned (.int .i64 (capD ⟨id, ver, rs, rg⟩)) ∧ Below w.heap.size w w' := by
  have hf := fun W => form20 id ver rs rg W
  by_cases hb : formB ⟨id, ver, rs, rg⟩ = true
  · rw [hb] at hf
    obtain ⟨_, _, r1, r2, g1, g2⟩ := formB_rng hb
    have e : capD ⟨id, ver, rs, rg⟩ = (rs - 1) * 59 := by unfold capD; rw [if_pos hb]
    have HF := Lib.hid hf
    have E := Lib.hid e
    clear hf e hb
    simp only at r1 r2 g1 g2
    go_enter Try.func29, Try.ntmps29
    go_wp2_with fail
    with_reducible refine (HF.out _).mono ?_
    rintro e w1 ⟨rfl, hb⟩
    obtain ⟨hc, _⟩ := bcell hb
    go_wp2_with fail
    go_ret
    exact ⟨ret_int E.out.symm, bel1 hb⟩
  · have hb' : formB ⟨id, ver, rs, rg⟩ = false := by simpa using hb
    rw [hb'] at hf
    have e : capD ⟨id, ver, rs, rg⟩ = 0 := by unfold capD; rw [if_neg hb]
    have HF := Lib.hid hf
    have E := Lib.hid e
    clear hf e hb hb'
    go_enter Try.func29, Try.ntmps29
    go_wp2_with fail
    with_reducible refine (HF.out _).mono ?_
    rintro e w1 ⟨rfl, hb⟩
    obtain ⟨hc, _⟩ := bcell hb
    go_wp2_with fail
    go_ret
    exact ⟨ret_int E.out.symm, bel1 hb⟩
def fitsB (l : Lay) (n : Int) : Bool := formB l && decide (74 + l.rg * l.rs ≤ n)
theorem mul_rng2 {g r : Int} (h0 : 4 ≤ g) (h1 : g ≤ 16) (h2 : 2 ≤ r) (h3 : r ≤ 2048) : 8 ≤ g * r ∧ g * r ≤ 32768 := by
  have a := Int.mul_le_mul h1 h3 (by omega) (by omega)
  have b := Int.mul_le_mul h0 h2 (by omega) (by omega)
  omega
/-- the sectors of a slot -/
def sectorsL (l : Lay) (i : Int) : List Int := if formB l = true ∧ 0 ≤ i ∧ i < l.rg then (List.range l.rs.toNat).map (fun k : Nat => 74 + i * l.rs + (k : Int)) else []
/-- the call returns a new list of integers (nil where it is empty), and nothing old has changed -/
def RetInts (w : World) (zs : List Int) (e : Ending) (w' : World) : Prop :=
  ∃ v, e = .returned v ∧ w'.ownsRow w.heap.size 3 1 v zs.length (zs.map (Value.int .i64)) ∧ Below w.heap.size w w'
theorem intinfo : (Try.prog.info? 3).map (fun i => (i.zero, i.size, i.bytes)) = some (some (.int .i64 0), 1, 8) := by kernel_rfl
theorem map_range_succ (f : Nat → Int) (k : Nat) : ((List.range k).map f).map (Value.int .i64) ++ [Value.int .i64 (f k)] = ((List.range (k + 1)).map f).map (Value.int .i64) := by
  rw [List.range_succ, List.map_append, List.map_append]; rfl
set_option maxHeartbeats 1000000 in
theorem sectors9_no (id ver rs rg i : Int) (w : World) (h : ¬ (formB ⟨id, ver, rs, rg⟩ = true ∧ 0 ≤ i ∧ i < rg)) :
    Calls Try.prog 33 #[.agg #[.int .i64 id, .int .i64 ver, .int .i64 rs, .int .i64 rg], .int .i64 i] w (RetInts w []) := by
  have hf := fun W => refform12 id ver rs rg W
  by_cases hb : formB ⟨id, ver, rs, rg⟩ = true
  · rw [hb] at hf
    have HF := Lib.hid hf
    have h1 : i < 0 ∨ (0 ≤ i ∧ rg ≤ i) := by
      by_cases h0 : i < 0
      · exact .inl h0
      · right; refine ⟨by omega, ?_⟩
        by_cases h1 : rg ≤ i
        · exact h1
        · exact (h ⟨hb, by omega, by omega⟩).elim
    clear hf hb h
    rcases h1 with h1 | ⟨h1, h2⟩
    · have d1 : decide (i < 0) = true := by simpa using h1
      go_enter Try.func33, Try.ntmps33
      go_wp2_with fail
      with_reducible refine (HF.out _).mono ?_
      rintro e w1 ⟨rfl, hb⟩
      go_wp2_with fail
      go_ret
      exact ⟨_, rfl, World.ownsRow_nil _ _ _ _, bel1 hb⟩
    · have d1 : decide (i < 0) = false := by simp; omega
      have d2 : decide (rg ≤ i) = true := by simpa using h2
      go_enter Try.func33, Try.ntmps33
      go_wp2_with fail
      with_reducible refine (HF.out _).mono ?_
      rintro e w1 ⟨rfl, hb⟩
      obtain ⟨hc, _⟩ := bcell hb
      go_wp2_with fail
      go_ret
      exact ⟨_, rfl, World.ownsRow_nil _ _ _ _, bel1 hb⟩
  · have hb' : formB ⟨id, ver, rs, rg⟩ = false := by simpa using hb
    rw [hb'] at hf
    have HF := Lib.hid hf
    clear hf hb hb' h
    go_enter Try.func33, Try.ntmps33
    go_wp2_with fail
    with_reducible refine (HF.out _).mono ?_
    rintro e w1 ⟨rfl, hb⟩
    go_wp2_with fail
    go_ret
    exact ⟨_, rfl, World.ownsRow_nil _ _ _ _, bel1 hb⟩
set_option maxHeartbeats 1000000 in
theorem sectors9_yes (id ver i rg : Int) (r : Nat) (w : World) (hb : formB ⟨id, ver, (r : Int), rg⟩ = true) (h0 : 0 ≤ i) (h1 : i < rg) :
    Calls Try.prog 33 #[.agg #[.int .i64 id, .int .i64 ver, .int .i64 (r : Int), .int .i64 rg], .int .i64 i] w (RetInts w ((List.range r).map (fun k : Nat => 74 + i * (r : Int) + (k : Int)))) := by
  have hf := fun W => refform12 id ver r rg W
  rw [hb] at hf
  obtain ⟨_, _, r1, r2, g1, g2⟩ := formB_rng hb
  simp only at r1 r2 g1 g2
  obtain ⟨m1, m2⟩ := mul_rng (i := i) (r := r) (by omega) (by omega) r1 r2
  have HF := Lib.hid hf
  obtain ⟨i0, hi, hz0, hz1, hz2⟩ := info_parts intinfo
  have I1 := Lib.hid hi; have I2 := Lib.hid hz0; have I3 := Lib.hid hz1; have I4 := Lib.hid hz2
  clear hf hb hi hz0 hz1 hz2
  have d1 : decide (i < 0) = false := by simp; omega
  have d2 : decide (rg ≤ i) = false := by simp; omega
  go_enter Try.func33, Try.ntmps33
  go_wp2_with fail
  with_reducible refine (HF.out _).mono ?_
  rintro e w1 ⟨rfl, hb⟩
  obtain ⟨hc, _⟩ := bcell hb
  go_wp2_with fail
  clear hc
  have hsz := hb.size
  simp at hsz
  go_loopw [5, 6] (fun v j wr => ∃ k : Nat, k ≤ r ∧ j = .int .i64 k ∧ wr.ownsRow (w.heap.size + 1) 3 1 v k (((List.range k).map (fun k : Nat => 74 + i * (r : Int) + (k : Int))).map (Value.int .i64)) ∧ Below (w.heap.size + 1) w1 wr) (fun _ j _ => r - (intOf j).toNat)
  case atStart => exact ⟨0, Nat.zero_le _, rfl, World.ownsRow_nil _ _ _ _, Below.refl _ _⟩
  case round =>
    obtain ⟨k, hk, rfl, hown, hbr⟩ := hrel
    have hc2 : wr.cell? ⟨w.heap.size, 2, none⟩ = some (.int .i64 (r : Int)) := by
      rw [hbr.cell (by simp), hb.cell (by simp), World.cell?_alloc_new]; rfl
    have hz := hbr.size
    have O := Lib.hid hown
    have B := Lib.hid hbr
    clear hown hbr
    by_cases hlt : k < r
    · go_wp2_with (at_builtin; refine Stop.out ?_)
      refine Stop.of (wpList_app rfl _ _ 30 rfl (w.heap.size + 1) 3 i0 (.int .i64 0) 1 8 Try.underlying30 I1.out I2.out I3.out I4.out rfl (by decide) _ k _ rfl (O.out.alloc _) (.slice (some ⟨wr.heap.size, 0, none⟩) 1 1) 1 [.int .i64 (74 + i * (r : Int) + (k : Int))] rfl (src_lit #[.int .i64 (74 + i * (r : Int) + (k : Int))] (0, 0) (heap_alloc_new wr _) rfl) (ints_one .i64 [74 + i * (r : Int) + (k : Int)]) (by unfold maxLen; omega) (by omega) (by simp; omega) ?_)
      intro v2 w2 hown2 hg2
      rw [map_range_succ (fun k : Nat => 74 + i * (r : Int) + (k : Int)) k] at hown2
      have hb2 := (B.out.alloc (by omega) _).grown hg2 (by simp; omega) (fun j hj => (O.out.lt j hj).1)
      have O2 := Lib.hid hown2
      have B2 := Lib.hid hb2
      clear hown2 hg2 hb2 O B hc2
      go_wp2_with fail
      go_roundw
      case rel => exact ⟨k + 1, by omega, by go_num, O2.out, B2.out⟩
      case measure => simp [intOf]; omega
    · obtain rfl : k = r := by omega
      go_wp2_with fail
      go_ret
      refine ⟨_, rfl, ?_, bel1 (hb.trans (B.out.mono (by simp)))⟩
      have := Joins.ownsRow_le O.out (Nat.le_succ w.heap.size)
      simpa using this
theorem sectors9 (id ver rs rg i : Int) (w : World) :
    Calls Try.prog 33 #[.agg #[.int .i64 id, .int .i64 ver, .int .i64 rs, .int .i64 rg], .int .i64 i] w (RetInts w (sectorsL ⟨id, ver, rs, rg⟩ i)) := by
  by_cases h : formB ⟨id, ver, rs, rg⟩ = true ∧ 0 ≤ i ∧ i < rg
  · have e : sectorsL ⟨id, ver, rs, rg⟩ i = (List.range rs.toNat).map (fun k : Nat => 74 + i * rs + (k : Int)) := by unfold sectorsL; rw [if_pos h]
    rw [e]
    obtain ⟨h1, h2, h3⟩ := h
    obtain ⟨_, _, r1, r2, _, _⟩ := formB_rng h1
    simp only at r1 r2
    obtain ⟨r, rfl⟩ := Int.eq_ofNat_of_zero_le (show 0 ≤ rs by omega)
    exact sectors9_yes id ver i rg r w h1 h2 h3
  · have e : sectorsL ⟨id, ver, rs, rg⟩ i = [] := by unfold sectorsL; rw [if_neg h]
    rw [e]
    exact sectors9_no id ver rs rg i w h
end Go.Proofs.Ytkafffoaaklhiaa
