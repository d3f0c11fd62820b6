/-
  Awake of the laws on replay.
-/
import Derived.Test.YtbfkhghegkiifaaRpMap
import Derived.Test.YtbfkhghegkiifaaTabHome
namespace Go.Proofs.Ytbfkhghegkiifaa
open Go.RowKit
set_option linter.unusedVariables false
abbrev kA : ByteArray := ⟨#[97]⟩
abbrev kB : ByteArray := ⟨#[98]⟩
abbrev kC : ByteArray := ⟨#[99]⟩
theorem elems_byV {w : World} {a : Option Addr} {s : ByteArray} (h : Elems .u8 w a s.size (bytesI s)) : Vals w a (byV s) := by
  intro i hi
  rw [byV_len] at hi
  obtain ⟨b, off, h1, h2, h3⟩ := h i hi
  refine ⟨b, off, h1, h2, ?_⟩
  rw [h3]
  have : i < s.data.toList.length := hi
  unfold byV bytesI
  rw [List.getElem?_map, List.getElem?_map, List.getElem?_eq_getElem this]
  rfl
/-- what value gives -/
def ValE (w : World) (k : ByteArray) (at_ : Int) (e : Ending) (w' : World) : Prop :=
  ∃ g cap, e = .returned (.agg #[.int .i64 0, .int .i64 17, .int .i64 1, .slice (some ⟨g, 0, none⟩) k.size cap, .slice none 0 0, .int .i64 at_]) ∧ Vals w' (some ⟨g, 0, none⟩) (byV k) ∧ Below w.heap.size w w'
def set6 (w : World) (b : Nat) (v0 v1 v2 v3 v4 v5 : Value) : World := (((((w.setCell ⟨b, 0, none⟩ v0).setCell ⟨b, 1, none⟩ v1).setCell ⟨b, 2, none⟩ v2).setCell ⟨b, 3, none⟩ v3).setCell ⟨b, 4, none⟩ v4).setCell ⟨b, 5, none⟩ v5
theorem set6_blk {w : World} {b : Nat} {a0 a1 a2 a3 a4 a5 : Value} {t : TypeId} (h : w.heap[b]? = some (.cells #[a0, a1, a2, a3, a4, a5] t (0, 0))) (v0 v1 v2 v3 v4 v5 : Value) : (set6 w b v0 v1 v2 v3 v4 v5).heap[b]? = some (.cells #[v0, v1, v2, v3, v4, v5] t (0, 0)) := by
  unfold set6
  have h0 := blk_set (i := 0) h v0
  have h1 := blk_set (i := 1) h0 v1
  have h2 := blk_set (i := 2) h1 v2
  have h3 := blk_set (i := 3) h2 v3
  have h4 := blk_set (i := 4) h3 v4
  have h5 := blk_set (i := 5) h4 v5
  simpa using h5
theorem set6_fr (w : World) (b : Nat) (v0 v1 v2 v3 v4 v5 : Value) : Fr (fun j => j = b) w (set6 w b v0 v1 v2 v3 v4 v5) := by
  unfold set6
  exact (((((fr_set _ _ _ _).trans (fr_set _ _ _ _) (fun j hj => .inl hj)).trans (fr_set _ _ _ _) (fun j hj => .inl hj)).trans (fr_set _ _ _ _) (fun j hj => .inl hj)).trans (fr_set _ _ _ _) (fun j hj => .inl hj)).trans (fr_set _ _ _ _) (fun j hj => .inl hj)
set_option maxHeartbeats 2000000 in
theorem value12 (k : ByteArray) (at_ : Int) (w : World) : Calls Try.prog 12 #[.string k, .int .i64 at_] w (ValE w k at_) := by
  obtain ⟨g, cap, w1, hr, he, hb⟩ := run_bytesX (w.alloc (.cells #[.int .i64 0, .int .i64 0, .int .i64 0, .slice none 0 0, .slice none 0 0, .int .i64 0] 44)) k
  have hx : w1.heap[w.heap.size]? = some (.cells #[.int .i64 0, .int .i64 0, .int .i64 0, .slice none 0 0, .slice none 0 0, .int .i64 0] 44 (0, 0)) := (hb.block _ (by simp)).trans (heap_alloc_new _ _)
  have HX := Lib.hid hx
  have x0 := blk_cell (i := 0) hx; have x1 := blk_cell (i := 1) hx; have x2 := blk_cell (i := 2) hx; have x3 := blk_cell (i := 3) hx; have x4 := blk_cell (i := 4) hx; have x5 := blk_cell (i := 5) hx
  have y0 := blk_free (i := 0) hx; have y1 := blk_free (i := 1) hx; have y2 := blk_free (i := 2) hx; have y3 := blk_free (i := 3) hx; have y4 := blk_free (i := 4) hx; have y5 := blk_free (i := 5) hx
  have hlt := blk_lt hx
  simp only [List.getElem?_toArray, List.getElem?_cons_zero, List.getElem?_cons_succ] at x0 x1 x2 x3 x4 x5
  have HE := Lib.hid (elems_byV he)
  have HB := Lib.hid hb
  have HG := Lib.hid (show 0 < k.size → g ≠ w.heap.size from fun hk e => by
    obtain ⟨b, off, h1, h2, h3⟩ := he 0 hk
    cases h1
    subst e
    rw [x0] at h3
    cases h3)
  clear hx he hb
  go_enter Try.func12, Try.ntmps12
  go_wp2_with fail
  obtain ⟨w2, hw2⟩ : ∃ w2, set6 w1 w.heap.size (.int .i64 0) (.int .i64 17) (.int .i64 1) (.slice (some ⟨g, 0, none⟩) k.size cap) (.slice none 0 0) (.int .i64 at_) = w2 := ⟨_, rfl⟩
  have h2 := set6_blk HX.out (.int .i64 0) (.int .i64 17) (.int .i64 1) (.slice (some ⟨g, 0, none⟩) k.size cap) (.slice none 0 0) (.int .i64 at_)
  have f2 := set6_fr w1 w.heap.size (.int .i64 0) (.int .i64 17) (.int .i64 1) (.slice (some ⟨g, 0, none⟩) k.size cap) (.slice none 0 0) (.int .i64 at_)
  have hw2' := hw2
  unfold set6 at hw2'
  rw [hw2] at h2 f2
  have r0 := blk_cell (i := 0) h2; have r1 := blk_cell (i := 1) h2; have r2 := blk_cell (i := 2) h2; have r3 := blk_cell (i := 3) h2; have r4 := blk_cell (i := 4) h2; have r5 := blk_cell (i := 5) h2
  simp only [List.getElem?_toArray, List.getElem?_cons_zero, List.getElem?_cons_succ] at r0 r1 r2 r3 r4 r5
  rw [hw2']
  refine bodyPost_ret (v := .agg #[.int .i64 0, .int .i64 17, .int .i64 1, .slice (some ⟨g, 0, none⟩) k.size cap, .slice none 0 0, .int .i64 at_]) (by simp [results, Try.results12, go_sem, r0, r1, r2, r3, r4, r5]; try rfl) rfl ?_
  refine ⟨g, cap, rfl, ?_, Fr.below (bel1 HB.out) f2 (Nat.le_of_lt hlt) (fun j hj => by rw [hj]; exact Nat.le_refl _)⟩
  by_cases hk : 0 < k.size
  · exact HE.out.fr f2 (fun b off e hb => by cases e; exact HG.out hk hb)
  · intro i hi
    rw [byV_len] at hi
    omega
/-- the example of the chapter -/
theorem awake_ex : MapR [⟨3, 0, 17, 1, kA, 0⟩, ⟨3, 0, 17, 1, kB, 0⟩, ⟨3, 0, 0, 2, kA, 0⟩, ⟨3, 0, 17, 1, kC, 5⟩] 5 [⟨kB, ⟨3, 0, 17, 0, false⟩⟩] := by
  have hab : kA ≠ kB := by decide
  have hac : kA ≠ kC := by decide
  have hbc : kB ≠ kC := by decide
  refine ⟨List.pairwise_singleton _ _, fun x => ?_⟩
  obtain ⟨k, e⟩ := x
  rw [List.mem_singleton]
  unfold after foldF
  simp only [List.foldl_cons, List.foldl_nil, stepF, Rc.ent, reduceIte, show ¬ ((2 : Int) = 1) by decide]
  by_cases h1 : kC = k
  · subst h1
    rw [if_pos rfl]
    constructor
    · intro h; injection h with h; exact absurd h.symm hbc
    · rintro ⟨h, h2⟩; injection h with h; subst h; exact absurd h2 (by decide)
  · rw [if_neg h1]
    by_cases h2 : kA = k
    · subst h2
      rw [if_pos rfl]
      constructor
      · intro h; injection h with h; exact absurd h hab
      · rintro ⟨h, _⟩; cases h
    · rw [if_neg h2]
      by_cases h3 : kB = k
      · subst h3
        rw [if_pos rfl]
        constructor
        · intro h; injection h with _ h; subst h; exact ⟨rfl, by decide⟩
        · rintro ⟨h, _⟩; injection h with h; rw [← h]
      · rw [if_neg h3, if_neg h2]
        constructor
        · intro h; injection h with h; exact absurd h.symm h3
        · rintro ⟨h, _⟩; cases h
theorem heap_fst' (w : World) (o o' : Obj) : ((w.alloc o).alloc o').heap[w.heap.size]? = some o := by
  show ((w.heap.push _).push _)[w.heap.size]? = _
  rw [Array.getElem?_push, Array.size_push, if_neg (by omega), Array.getElem?_push, if_pos rfl]
/-- the example's batch -/
def awB (g g1 g2 gt g3 c1 c2 c3 : Nat) : Bt := ⟨3, some ⟨g, 0, none⟩, 4, [⟨0, 17, 1, 0, some ⟨g1, 0, none⟩, c1, kA⟩, ⟨0, 17, 1, 0, some ⟨g2, 0, none⟩, c2, kB⟩, ⟨0, 0, 2, 0, some ⟨gt, 0, none⟩, 1, kA⟩, ⟨0, 17, 1, 5, some ⟨g3, 0, none⟩, c3, kC⟩]⟩
theorem aw_in {w : World} {g1 g2 gt g3 c1 c2 c3 : Nat} (h1 : Vals w (some ⟨g1, 0, none⟩) (byV kA)) (h2 : Vals w (some ⟨g2, 0, none⟩) (byV kB)) (ht : Vals w (some ⟨gt, 0, none⟩) (byV kA)) (h3 : Vals w (some ⟨g3, 0, none⟩) (byV kC)) :
    BtsIn ((w.alloc (.cells #[.int .i64 0, .int .i64 17, .int .i64 1, .slice (some ⟨g1, 0, none⟩) 1 c1, .slice none 0 0, .int .i64 0, .int .i64 0, .int .i64 17, .int .i64 1, .slice (some ⟨g2, 0, none⟩) 1 c2, .slice none 0 0, .int .i64 0, .int .i64 0, .int .i64 0, .int .i64 2, .slice (some ⟨gt, 0, none⟩) 1 1, .slice none 0 0, .int .i64 0, .int .i64 0, .int .i64 17, .int .i64 1, .slice (some ⟨g3, 0, none⟩) 1 c3, .slice none 0 0, .int .i64 5] 44)).alloc (.cells #[.int .i64 3, .slice (some ⟨w.heap.size, 0, none⟩) 4 4] 34)) (some ⟨w.heap.size + 1, 0, none⟩) [awB w.heap.size g1 g2 gt g3 c1 c2 c3] := by
  have hb : Below w.heap.size w ((w.alloc (.cells #[.int .i64 0, .int .i64 17, .int .i64 1, .slice (some ⟨g1, 0, none⟩) 1 c1, .slice none 0 0, .int .i64 0, .int .i64 0, .int .i64 17, .int .i64 1, .slice (some ⟨g2, 0, none⟩) 1 c2, .slice none 0 0, .int .i64 0, .int .i64 0, .int .i64 0, .int .i64 2, .slice (some ⟨gt, 0, none⟩) 1 1, .slice none 0 0, .int .i64 0, .int .i64 0, .int .i64 17, .int .i64 1, .slice (some ⟨g3, 0, none⟩) 1 c3, .slice none 0 0, .int .i64 5] 44)).alloc (.cells #[.int .i64 3, .slice (some ⟨w.heap.size, 0, none⟩) 4 4] 34)) := ((Below.refl _ _).alloc (Nat.le_refl _) _).alloc (by simp) _
  refine ⟨Vals.lit (heap_two _ _ _), fun b hbm => ?_⟩
  rw [List.mem_singleton] at hbm
  subst hbm
  refine ⟨Vals.lit (heap_fst' _ _ _), fun f hf => ?_, by show 4 ≤ 8; omega⟩
  unfold awB at hf
  simp only [List.mem_cons, List.not_mem_nil, or_false] at hf
  rcases hf with rfl | rfl | rfl | rfl
  · exact ⟨h1.below hb (Nat.le_refl _), show kA.size ≤ 10 by decide⟩
  · exact ⟨h2.below hb (Nat.le_refl _), show kB.size ≤ 10 by decide⟩
  · exact ⟨ht.below hb (Nat.le_refl _), show kA.size ≤ 10 by decide⟩
  · exact ⟨h3.below hb (Nat.le_refl _), show kC.size ≤ 10 by decide⟩
set_option maxRecDepth 100000 in
set_option maxHeartbeats 4000000 in
theorem awake8 (w : World) : Calls Try.prog 8 #[] w fun e w' => e = .returned (.bool true) ∧ Below w.heap.size w w' := by
  have kc := fun (w : World) (C : Array Value) (n c g : Nat) (hg : g = w.heap.size) => Joins.run_convert_bytes_const_at (P := Try.prog) w 40 5 C n c g hg Try.underlying40 Try.underlying5
  go_enter Try.func8, Try.ntmps8
  go_wp2_with fail
  with_reducible refine (value12 _ _ _).mono ?_
  rintro e w1 ⟨g1, c1, rfl, v1, b1⟩
  have V1 := Lib.hid v1
  have B1 := Lib.hid b1
  clear v1 b1
  go_wp2_with fail
  with_reducible refine (value12 _ _ _).mono ?_
  rintro e w2 ⟨g2, c2, rfl, v2, b2⟩
  have V2 := Lib.hid v2
  have B2 := Lib.hid b2
  clear v2 b2
  go_wp2_with fail
  have VT := Lib.hid (show Vals (w2.alloc (.cells #[.int .u8 97] 5 (1, 2))) (some ⟨w2.heap.size, 0, none⟩) (byV kA) from Vals.lit (fr := (1, 2)) (heap_alloc_new _ _))
  obtain ⟨gt, hgt⟩ : ∃ gt, w2.heap.size = gt := ⟨_, rfl⟩
  rw [hgt] at VT
  with_reducible refine (value12 _ _ _).mono ?_
  rintro e w3 ⟨g3, c3, rfl, v3, b3⟩
  have V3 := Lib.hid v3
  have VT3 := Lib.hid (VT.out.below b3 (Nat.le_refl _))
  have V13 := Lib.hid ((V1.out.below (B2.out) (Nat.le_refl _)).below (bel1 b3) (Nat.le_refl _))
  have V23 := Lib.hid (V2.out.below (bel1 b3) (Nat.le_refl _))
  have B3 := Lib.hid (bel_trans (bel_trans B1.out B2.out) (bel1 b3))
  rw [hgt]
  clear v3 b3 hgt VT V1 V2 B1 B2
  have BI := Lib.hid (aw_in (c1 := c1) (c2 := c2) (c3 := c3) V13.out V23.out VT3.out V3.out)
  have BB := Lib.hid (fun (W : World) (h : Below w3.heap.size w3 W) => bel_trans B3.out h)
  clear B3 V13 V23 VT3 V3
  go_wp2_with fail
  with_reducible refine (rmap10 _ 1 1 [awB w3.heap.size g1 g2 gt g3 c1 c2 c3] 5 _ rfl (by omega) BI.out).mono ?_
  rintro e w4 ⟨v, q, rfl, hm, -, hown, hb4⟩
  obtain rfl := MapR.eq hm awake_ex
  obtain ⟨a, cap, rfl, hv, -⟩ := ownsRow_vals hown
  obtain ⟨g, off, rfl, hg, q0, q1, q2, q3, q4, q5⟩ := hv.pair 0 _ rfl
  have HB4 := Lib.hid (BB.out _ (bel2 hb4))
  rw [Nat.zero_mul, Nat.add_zero] at q0 q1
  clear hm hown hb4 hv BI BB q2 q3 q4 q5
  go_wp2_with fail
  go_ret
  exact ⟨rfl, HB4.out⟩
end Go.Proofs.Ytbfkhghegkiifaa
