/-
  GeometryTile: the slots of a layout are disjoint and follow each other without gaps. No condition.
-/
import Derived.Test.YtolfepbelekcoaaGeometryFree
import Derived.WalkSmall
import Derived.WalkSpells
import Derived.Deep.DeepFit
namespace Go.Proofs.Ytolfepbelekcoaa
open Go.RowKit Go.ChangeShapes Go.WideShapes Go.ChangeAt
set_option linter.unusedVariables false
theorem overlap_self (a : Lay) (i k : Int) : overlapB a i a k = (decide (0 < ((sectorsL a i).length : Int)) && (decide (0 < ((sectorsL a k).length : Int)) && i == k)) := by
  have h1 := sect_cases a i
  have h2 := sect_cases a k
  rcases h1 with ⟨e1, f1⟩ | h1
  · rw [e1]; unfold overlapB; rw [f1]; simp
  rcases h2 with ⟨e2, f2⟩ | h2
  · rw [e2]; unfold overlapB; rw [f2]; simp
  have p1 : decide (0 < ((sectorsL a i).length : Int)) = true := by simp; omega
  have p2 : decide (0 < ((sectorsL a k).length : Int)) = true := by simp; omega
  rw [p1, p2]
  have q : ∀ j, 74 ≤ firstD a j → firstD a j = 74 + j * a.rs := by
    intro j hj
    unfold firstD at hj ⊢
    split
    · rfl
    · rename_i hn; rw [if_neg hn] at hj; omega
  have g1 := q i (by omega)
  have g2 := q k (by omega)
  simp only [Bool.true_and, overlapB]
  rw [Bool.eq_iff_iff, decide_eq_true_eq, beq_iff_eq]
  constructor
  · rintro ⟨_, _, u, v⟩
    rw [g1, g2] at u v
    obtain ⟨r0, r1⟩ : 2 ≤ a.rs ∧ a.rs ≤ 2048 := ⟨by omega, by omega⟩
    rcases Int.lt_trichotomy i k with h | h | h
    · have := Int.mul_le_mul_of_nonneg_right (show i + 1 ≤ k by omega) (show 0 ≤ a.rs by omega)
      rw [Int.add_mul, Int.one_mul] at this; omega
    · exact h
    · have := Int.mul_le_mul_of_nonneg_right (show k + 1 ≤ i by omega) (show 0 ≤ a.rs by omega)
      rw [Int.add_mul, Int.one_mul] at this; omega
  · rintro rfl; omega
theorem tmod_rng (i g : Int) (h0 : 4 ≤ g) (h1 : g ≤ 16) : wrap64 (i.tmod g + g) = i.tmod g + g ∧ 0 ≤ (i.tmod g + g).tmod g ∧ (i.tmod g + g).tmod g < g := by
  have a := Int.lt_tmod_of_pos i (b := g) (by omega)
  have b := Int.tmod_lt_of_pos i (b := g) (by omega)
  refine ⟨wrap_small _ (by omega), Int.tmod_nonneg _ (by omega), Int.tmod_lt_of_pos _ (by omega)⟩
set_option maxHeartbeats 1000000 in
theorem tile_a (id ver rs rg i : Int) (w : World) (h : formB ⟨id, ver, rs, rg⟩ = false) :
    Calls Try.prog 7 #[.agg #[.int .i64 id, .int .i64 ver, .int .i64 rs, .int .i64 rg], .int .i64 i] w fun e w' => e = .returned (.bool true) ∧ Below w.heap.size w w' := by
  have c1 := fun W => refform12 id ver rs rg W
  rw [h] at c1
  have C1 := Lib.hid c1
  clear c1 h
  go_enter Try.func7, Try.ntmps7
  go_wp2_with fail
  with_reducible refine (C1.out _).mono ?_
  rintro e w1 ⟨rfl, hb⟩
  go_wp2_with fail
  with_reducible refine (awake12 _).mono ?_
  rintro e w2 ⟨rfl, hb'⟩
  replace hb := bel_trans hb hb'
  go_wp2_with fail
  go_ret
  exact ⟨rfl, bel1 hb⟩
theorem freeL_none (t : Lay) (f : Nat → Reg) (k : Nat) : (freeL t f 0 k).length = k := by
  induction k with
  | zero => rfl
  | succ k ih =>
    show (if anyHit t (k : Int) f 0 = true then freeL t f 0 k else freeL t f 0 k ++ [(k : Int)]).length = k + 1
    rw [if_neg (by simp [anyHit]), List.length_append, ih]; rfl
theorem freeL_one (t : Lay) (f : Nat → Reg) (j : Nat) (hh : ∀ s : Nat, (s : Int) < t.rg → anyHit t (s : Int) f 1 = decide (s = j)) (k : Nat) (hk : (k : Int) ≤ t.rg) :
    (freeL t f 1 k).length = if j < k then k - 1 else k := by
  induction k with
  | zero => simp [freeL]
  | succ k ih =>
    have := ih (by omega)
    show (if anyHit t (k : Int) f 1 = true then freeL t f 1 k else freeL t f 1 k ++ [(k : Int)]).length = _
    rw [hh k (by omega)]
    by_cases hkj : k = j
    · rw [if_pos (by simpa using hkj), this, if_neg (by omega), if_pos (by omega)]; omega
    · rw [if_neg (by simpa using hkj), List.length_append, this]
      by_cases h2 : j < k
      · rw [if_pos h2, if_pos (by omega)]; simp; omega
      · rw [if_neg h2, if_neg (by omega)]; rfl
theorem keepA {n : Nat} {W0 W : World} {o : Obj} (h : (∀ b o, b < n → W.cell? ⟨b, o, none⟩ = W0.cell? ⟨b, o, none⟩) ∧ Below n W0 W) (h0 : n ≤ W0.heap.size) :
    (∀ b o', b < n → (W.alloc o).cell? ⟨b, o', none⟩ = W0.cell? ⟨b, o', none⟩) ∧ Below n W0 (W.alloc o) := by
  have k := h.2.alloc (Nat.le_trans h0 h.2.size) o
  exact ⟨fun b o hlt => k.cell (p := ⟨b, o, none⟩) hlt, k⟩
/-- a new block of one region, as a slice of one region -/
theorem RegsAt_new (W : World) (r : Reg) (t b : Nat) (hb : b = W.heap.size) : RegsAt (W.alloc (.cells #[.int .i64 r.ver, .int .i64 r.slot, .int .i64 r.lay, .int .i64 r.seq, .int .i64 r.tail, .int .i64 r.now, .int .i64 r.l.id, .int .i64 r.l.ver, .int .i64 r.l.rs, .int .i64 r.l.rg] t)) (some ⟨b, 0, none⟩) 1 (fun _ => r) := by
  subst hb
  intro i hi
  obtain rfl : i = 0 := by omega
  refine ⟨_, _, rfl, by simp, fun j hj => ?_⟩
  rw [World.cell?_alloc_at _ _ _ _ rfl]
  simp [Reg.cells]
theorem first_in (id ver rs rg : Int) (h : formB ⟨id, ver, rs, rg⟩ = true) (j : Int) (j0 : 0 ≤ j) (j1 : j < rg) (x : Int) (hx : x = 74 + j * rs) (W : World) :
    Calls Try.prog 13 #[.agg #[.int .i64 id, .int .i64 ver, .int .i64 rs, .int .i64 rg], .int .i64 j] W fun e w' => e = .returned (.int .i64 x) ∧ Below W.heap.size W w' := by
  have e : firstD ⟨id, ver, rs, rg⟩ j = x := by unfold firstD; rw [if_pos ⟨h, j0, j1⟩, hx]
  rw [← e]; exact first13 id ver rs rg j W
set_option maxHeartbeats 4000000 in
theorem tile_b (id ver rs rg i : Int) (w : World) (h : formB ⟨id, ver, rs, rg⟩ = true) :
    Calls Try.prog 7 #[.agg #[.int .i64 id, .int .i64 ver, .int .i64 rs, .int .i64 rg], .int .i64 i] w fun e w' => e = .returned (.bool true) ∧ Below w.heap.size w w' := by
  have c1 := fun W => refform12 id ver rs rg W
  obtain ⟨_, _, r1, r2, g1, g2⟩ := formB_rng h
  simp only at r1 r2 g1 g2
  have ht := Lib.hid (tmod_rng i rg g1 g2)
  rw [h] at c1
  have C1 := Lib.hid c1
  have d3 : (rg == 0) = false := by rw [beq_eq_false_iff_ne]; omega
  have HH := Lib.hid h
  clear c1 h
  go_enter Try.func7, Try.ntmps7
  go_wp2_with fail
  with_reducible refine (C1.out _).mono ?_
  rintro e w1 ⟨rfl, hb⟩
  obtain ⟨hc, _⟩ := bcell hb
  go_wp2_with fail
  go_quiet (fail)
  have hb2 := below_drewN hb nq
  clear hb hc
  generalize w1.drewN nq = w2 at *
  obtain ⟨hc, _⟩ := bcell hb2
  obtain ⟨e1, j0, j1⟩ := ht.out
  rw [e1]
  clear e1 ht
  generalize (i.tmod rg + rg).tmod rg = j at *
  generalize i.tmod rg + rg = j' at *
  obtain ⟨m1, m2⟩ := mul_rng (i := j) (r := rs) j0 (by omega) r1 r2
  by_cases hj : j + 1 < rg
  · have dj : decide (j + 1 < rg) = true := decide_eq_true hj
    have F1 := Lib.hid (first_in id ver rs rg HH.out (j + 1) (by omega) hj (74 + j * rs + rs) (by rw [Int.add_mul, Int.one_mul]; omega))
    have F2 := Lib.hid (first_in id ver rs rg HH.out j j0 j1 (74 + j * rs) rfl)
    go_wp2_with fail
    have hz : w.heap.size < w2.heap.size := by have := hb2.size; simp at this; omega
    have hx := fun (x : Ext w2.heap.size w2) b o h => Ext.cell x b o h
    refine wp_region_ext w2.heap.size (by kernel_rfl) (by kernel_rfl) ?_
    repeat (go_big_quiet_step (first | (go_at_call 13; first | (with_reducible exact Calls.ext (Nat.le_refl _) (F1.out _)) | (with_reducible exact Calls.ext (Nat.le_refl _) (F2.out _))) | (with_reducible exact rfl)))
    refine wpQuiet_nil ?_
    rintro w3 ⟨⟨_, hb'⟩, rfl⟩
    have hb3 := bel_trans hb2 hb'
    clear hc hx hb' hz F1 F2
    obtain ⟨hc, _⟩ := bcell hb3
    have h := HH.out
    have hz : w.heap.size < w3.heap.size := by have := hb3.size; simp at this; omega
    have hfr : ∀ s : Nat, (s : Int) < rg → anyHit ⟨id, ver, rs, rg⟩ (s : Int) (fun _ => ⟨0, j, 0, 0, 0, 0, ⟨id, ver, rs, rg⟩⟩) 1 = decide (s = j.toNat) := by
      intro s hs
      show (false || overlapB ⟨id, ver, rs, rg⟩ (s : Int) ⟨id, ver, rs, rg⟩ j) = _
      rw [overlap_self, Bool.false_or]
      have p1 : decide (0 < ((sectorsL ⟨id, ver, rs, rg⟩ (s : Int)).length : Int)) = true := by
        refine decide_eq_true ?_; have q := (sect_len ⟨id, ver, rs, rg⟩ (s : Int)).1; rcases Nat.eq_zero_or_pos (sectorsL ⟨id, ver, rs, rg⟩ (s : Int)).length with h0 | h0; exact (q h0 ⟨h, by omega, hs⟩).elim; omega
      have p2 : decide (0 < ((sectorsL ⟨id, ver, rs, rg⟩ j).length : Int)) = true := by
        refine decide_eq_true ?_; have q := (sect_len ⟨id, ver, rs, rg⟩ j).1; rcases Nat.eq_zero_or_pos (sectorsL ⟨id, ver, rs, rg⟩ j).length with h0 | h0; exact (q h0 ⟨h, j0, j1⟩).elim; omega
      rw [p1, p2, Bool.true_and, Bool.true_and, Bool.eq_iff_iff, beq_iff_eq, decide_eq_true_eq]; omega
    have hl1 : (freeD ⟨id, ver, rs, rg⟩ (fun _ => ⟨0, j, 0, 0, 0, 0, ⟨id, ver, rs, rg⟩⟩) 1).length = rg.toNat - 1 := by
      unfold freeD; rw [if_pos h, freeL_one _ _ j.toNat hfr _ (by simp only; omega), if_pos (by simp only; omega)]
    have hl0 : (freeD ⟨id, ver, rs, rg⟩ (fun _ => ⟨0, j, 0, 0, 0, 0, ⟨id, ver, rs, rg⟩⟩) 0).length = rg.toNat := by
      unfold freeD; rw [if_pos h, freeL_none]
    have c1 := first_in id ver rs rg h 0 (by omega) (by omega) 74 (by omega)
    have c2 := fun W => free17 ⟨id, ver, rs, rg⟩ none 0 0 (fun _ => ⟨0, j, 0, 0, 0, 0, ⟨id, ver, rs, rg⟩⟩) W (by omega) (fun i hi => by omega)
    have c3 := fun (W : World) (b : Nat) (hb : b = W.heap.size) => free17 ⟨id, ver, rs, rg⟩ (some ⟨b, 0, none⟩) 1 1 (fun _ => ⟨0, j, 0, 0, 0, 0, ⟨id, ver, rs, rg⟩⟩) _ (by omega) (RegsAt_new W ⟨0, j, 0, 0, 0, 0, ⟨id, ver, rs, rg⟩⟩ 43 b hb)
    simp only at c2 c3
    generalize freeD ⟨id, ver, rs, rg⟩ (fun _ => ⟨0, j, 0, 0, 0, 0, ⟨id, ver, rs, rg⟩⟩) 0 = z0 at *
    generalize freeD ⟨id, ver, rs, rg⟩ (fun _ => ⟨0, j, 0, 0, 0, 0, ⟨id, ver, rs, rg⟩⟩) 1 = z1 at *
    have hw9 : IntKind.i64.wrap (rg - 1) = rg - 1 := IntWalk.i64_in _ ⟨by omega, by omega⟩
    have e0 : (z0.length : Int) = rg := by omega
    have e1 : (z1.length : Int) = rg - 1 := by omega
    have E0 := Lib.hid e0; have E1 := Lib.hid e1; have D1 := Lib.hid c1; have D2 := Lib.hid c2; have D3 := Lib.hid c3
    clear h hfr hl1 hl0 c1 c2 c3 e0 e1 hc
    go_wp2_with fail
    go_region_held3 (fun w' => (∀ b o, b < w.heap.size + 1 → w'.cell? ⟨b, o, none⟩ = (w.alloc (.cells #[.int .i64 id, .int .i64 ver, .int .i64 rs, .int .i64 rg] 23)).cell? ⟨b, o, none⟩) ∧ Below (w.heap.size + 1) (w.alloc (.cells #[.int .i64 id, .int .i64 ver, .int .i64 rs, .int .i64 rg] 23)) w')
      (first | exact keepS (n := w.heap.size + 1) ⟨fun b o hlt => hb3.cell (p := ⟨b, o, none⟩) (by simpa using hlt), hb3.mono (by simp)⟩ (by simp) (Below.refl _ _).drew | exact keepS (n := w.heap.size + 1) (by assumption) (by simp) hb7 | exact keepA (n := w.heap.size + 1) (by assumption) (by simp) | exact keepS (n := w.heap.size + 1) (by assumption) (by simp) hb6 | exact keepS (n := w.heap.size + 1) (by assumption) (by simp) hb5 | exact keepS (n := w.heap.size + 1) (by assumption) (by simp) hb4)
      (first
        | (go_at_call 10; (with_reducible refine (awake12 _).mono ?_); rintro e w4 ⟨rfl, hb4⟩)
        | (go_at_call 13; (with_reducible refine (D1.out _).mono ?_); rintro e w5 ⟨rfl, hb5⟩)
        | (go_at_call 17; (with_reducible refine (D2.out _).mono ?_); rintro e w6 ⟨v6, rfl, hown6, hb6⟩; obtain ⟨a6, c6, rfl, _, _, _⟩ := ownsRow_elems hown6; have q6 := E0.out)
        | (go_at_call 17; (refine (D3.out _ _ rfl).mono ?_); rintro e w7 ⟨v7, rfl, hown7, hb7⟩; obtain ⟨a7, c7, rfl, _, _, _⟩ := ownsRow_elems hown7; have q7 := E1.out))
    have hfin := Lib.hid (show Below w.heap.size w w7 from bel1 (by simpa using (by assumption : _ ∧ _).2))
    go_wp2_with fail
    go_ret
    exact ⟨rfl, hfin.out⟩
  · have dj : decide (j + 1 < rg) = false := decide_eq_false hj
    go_wp2_with fail
    have hz : w.heap.size < w2.heap.size := by have := hb2.size; simp at this; omega
    have hx := fun (x : Ext w2.heap.size w2) b o h => Ext.cell x b o h
    refine wp_region_ext w2.heap.size (by kernel_rfl) (by kernel_rfl) ?_
    repeat (go_big_quiet_step (with_reducible exact rfl))
    refine wpQuiet_nil ?_
    rintro w3 ⟨⟨_, hb'⟩, rfl⟩
    have hb3 := bel_trans hb2 hb'
    clear hc hx hb' hz
    obtain ⟨hc, _⟩ := bcell hb3
    have h := HH.out
    have hz : w.heap.size < w3.heap.size := by have := hb3.size; simp at this; omega
    have hfr : ∀ s : Nat, (s : Int) < rg → anyHit ⟨id, ver, rs, rg⟩ (s : Int) (fun _ => ⟨0, j, 0, 0, 0, 0, ⟨id, ver, rs, rg⟩⟩) 1 = decide (s = j.toNat) := by
      intro s hs
      show (false || overlapB ⟨id, ver, rs, rg⟩ (s : Int) ⟨id, ver, rs, rg⟩ j) = _
      rw [overlap_self, Bool.false_or]
      have p1 : decide (0 < ((sectorsL ⟨id, ver, rs, rg⟩ (s : Int)).length : Int)) = true := by
        refine decide_eq_true ?_; have q := (sect_len ⟨id, ver, rs, rg⟩ (s : Int)).1; rcases Nat.eq_zero_or_pos (sectorsL ⟨id, ver, rs, rg⟩ (s : Int)).length with h0 | h0; exact (q h0 ⟨h, by omega, hs⟩).elim; omega
      have p2 : decide (0 < ((sectorsL ⟨id, ver, rs, rg⟩ j).length : Int)) = true := by
        refine decide_eq_true ?_; have q := (sect_len ⟨id, ver, rs, rg⟩ j).1; rcases Nat.eq_zero_or_pos (sectorsL ⟨id, ver, rs, rg⟩ j).length with h0 | h0; exact (q h0 ⟨h, j0, j1⟩).elim; omega
      rw [p1, p2, Bool.true_and, Bool.true_and, Bool.eq_iff_iff, beq_iff_eq, decide_eq_true_eq]; omega
    have hl1 : (freeD ⟨id, ver, rs, rg⟩ (fun _ => ⟨0, j, 0, 0, 0, 0, ⟨id, ver, rs, rg⟩⟩) 1).length = rg.toNat - 1 := by
      unfold freeD; rw [if_pos h, freeL_one _ _ j.toNat hfr _ (by simp only; omega), if_pos (by simp only; omega)]
    have hl0 : (freeD ⟨id, ver, rs, rg⟩ (fun _ => ⟨0, j, 0, 0, 0, 0, ⟨id, ver, rs, rg⟩⟩) 0).length = rg.toNat := by
      unfold freeD; rw [if_pos h, freeL_none]
    have c1 := first_in id ver rs rg h 0 (by omega) (by omega) 74 (by omega)
    have c2 := fun W => free17 ⟨id, ver, rs, rg⟩ none 0 0 (fun _ => ⟨0, j, 0, 0, 0, 0, ⟨id, ver, rs, rg⟩⟩) W (by omega) (fun i hi => by omega)
    have c3 := fun (W : World) (b : Nat) (hb : b = W.heap.size) => free17 ⟨id, ver, rs, rg⟩ (some ⟨b, 0, none⟩) 1 1 (fun _ => ⟨0, j, 0, 0, 0, 0, ⟨id, ver, rs, rg⟩⟩) _ (by omega) (RegsAt_new W ⟨0, j, 0, 0, 0, 0, ⟨id, ver, rs, rg⟩⟩ 43 b hb)
    simp only at c2 c3
    generalize freeD ⟨id, ver, rs, rg⟩ (fun _ => ⟨0, j, 0, 0, 0, 0, ⟨id, ver, rs, rg⟩⟩) 0 = z0 at *
    generalize freeD ⟨id, ver, rs, rg⟩ (fun _ => ⟨0, j, 0, 0, 0, 0, ⟨id, ver, rs, rg⟩⟩) 1 = z1 at *
    have hw9 : IntKind.i64.wrap (rg - 1) = rg - 1 := IntWalk.i64_in _ ⟨by omega, by omega⟩
    have e0 : (z0.length : Int) = rg := by omega
    have e1 : (z1.length : Int) = rg - 1 := by omega
    have E0 := Lib.hid e0; have E1 := Lib.hid e1; have D1 := Lib.hid c1; have D2 := Lib.hid c2; have D3 := Lib.hid c3
    clear h hfr hl1 hl0 c1 c2 c3 e0 e1 hc
    go_wp2_with fail
    go_region_held3 (fun w' => (∀ b o, b < w.heap.size + 1 → w'.cell? ⟨b, o, none⟩ = (w.alloc (.cells #[.int .i64 id, .int .i64 ver, .int .i64 rs, .int .i64 rg] 23)).cell? ⟨b, o, none⟩) ∧ Below (w.heap.size + 1) (w.alloc (.cells #[.int .i64 id, .int .i64 ver, .int .i64 rs, .int .i64 rg] 23)) w')
      (first | exact keepS (n := w.heap.size + 1) ⟨fun b o hlt => hb3.cell (p := ⟨b, o, none⟩) (by simpa using hlt), hb3.mono (by simp)⟩ (by simp) (Below.refl _ _).drew | exact keepS (n := w.heap.size + 1) (by assumption) (by simp) hb7 | exact keepA (n := w.heap.size + 1) (by assumption) (by simp) | exact keepS (n := w.heap.size + 1) (by assumption) (by simp) hb6 | exact keepS (n := w.heap.size + 1) (by assumption) (by simp) hb5 | exact keepS (n := w.heap.size + 1) (by assumption) (by simp) hb4)
      (first
        | (go_at_call 10; (with_reducible refine (awake12 _).mono ?_); rintro e w4 ⟨rfl, hb4⟩)
        | (go_at_call 13; (with_reducible refine (D1.out _).mono ?_); rintro e w5 ⟨rfl, hb5⟩)
        | (go_at_call 17; (with_reducible refine (D2.out _).mono ?_); rintro e w6 ⟨v6, rfl, hown6, hb6⟩; obtain ⟨a6, c6, rfl, _, _, _⟩ := ownsRow_elems hown6; have q6 := E0.out)
        | (go_at_call 17; (refine (D3.out _ _ rfl).mono ?_); rintro e w7 ⟨v7, rfl, hown7, hb7⟩; obtain ⟨a7, c7, rfl, _, _, _⟩ := ownsRow_elems hown7; have q7 := E1.out))
    have hfin := Lib.hid (show Below w.heap.size w w7 from bel1 (by simpa using (by assumption : _ ∧ _).2))
    go_wp2_with fail
    go_ret
    exact ⟨rfl, hfin.out⟩
theorem walkGeometryTile (v0 v1 : Value) (w : World) (base : Nat)
    (o0 : Value.okWide Try.prog w .any base 23 v0) (r0 : Reads Try.prog w 23 v0.cells.toList)
    (o1 : Value.okWide Try.prog w .any base 3 v1) (r1 : Reads Try.prog w 3 v1.cells.toList) :
    Calls Try.prog 7 #[v0, v1] w fun e w' => e = .returned (.bool true) ∧ Below w.heap.size w w' := by
  obtain ⟨⟨id, ver, rs, rg⟩, rfl, _⟩ := arg_lay o0 r0
  obtain ⟨i, rfl, _⟩ := arg_int Try.underlying3 o1 r1
  cases hf : formB ⟨id, ver, rs, rg⟩ with
  | false => exact tile_a id ver rs rg i w hf
  | true => exact tile_b id ver rs rg i w hf
set_option maxRecDepth 100000 in
theorem liftedGeometryTile (os : Os) (started : os.Started) (H : Type) (enc : TypeId × Value → H) :
    ReturnsInHanded {} Try.checked os 7 .any (Rows.geometryTileSpec.pre6 enc Try.prog Try.f7 Rows.geometryTileRow.domain false) (Rows.geometryTileSpec.post enc Try.prog Try.f7 false true false false) := by
  refine returnsInHanded_of_change (C := Try.checked) own started (by kernel_rfl) Try.func7
    (ChangeSpec.witness6 (enc := enc) (C := Try.checked) false ⟨#[], #[.agg #[.int .i64 0, .int .i64 0, .int .i64 0, .int .i64 0], .int .i64 0], []⟩ 8 (by kernel_rfl) (by kernel_rfl) (by kernel_rfl) (by kernel_rfl)) ?_
  intro W base args ds gs before hval0 hW hcnd _
  have hval : ∀ (j : Nat) t v, Try.f7.params[j]? = some t → args[j]? = some v → Value.okWide Try.prog W .any base t v := hval0
  have hW' := hW
  obtain ⟨p, q, hA0, hV, rfl, hfz, hnd⟩ := hW
  have hA : DataW.TrodAll enc Try.prog W 0 (fun _ => true) true Try.f7.params.toList args.toList ds p := hA0
  rw [Try.params7] at hA hval
  obtain ⟨v0, vs0, d0, ds0, p0, q0, hargs, rfl, rfl, h0, r0⟩ := trodAll_cons hA
  obtain ⟨v1, vs1, d1, ds1, p1, q1, rfl, rfl, rfl, h1, r1⟩ := trodAll_cons r0
  obtain ⟨rfl, rfl, rfl⟩ := trodAll_nil r1
  obtain rfl : args = #[v0, v1] := by cases args; simp_all
  obtain ⟨rfl, rfl⟩ := trodVars_none hV
  have lt0 : ∀ x ∈ p0, x.block < W.heap.size := by obtain ⟨m, hm⟩ := h0; exact DataW.trod_lt m _ _ _ hm
  have lt1 : ∀ x ∈ p1, x.block < W.heap.size := by obtain ⟨m, hm⟩ := h1; exact DataW.trod_lt m _ _ _ hm
  clear hA0 hval0
  refine (walkGeometryTile v0 v1 W base (hval 0 23 v0 rfl rfl) (Reads.of h0) (hval 1 3 v1 rfl rfl) (Reads.of h1)).mono fun e W' ⟨he, bel⟩ => ?_
  subst he
  exact ⟨_, rfl, _, _, _, [], _, [], hW', trodAll_mk1 (shut_bool Try.underlying4 _), (trodAll_cons_mk (Below.trod laidOut (by kernel_rfl) (of_decide_eq_true (by kernel_rfl)) h0 bel lt0) (trodAll_cons_mk (Below.trod laidOut (by kernel_rfl) (of_decide_eq_true (by kernel_rfl)) h1 bel lt1) trodAll_mk0)), rfl, bel.frame _, fun h => by cases h⟩

theorem overGeometryTile : Rows.geometryTileRow.holds Try.pinned (OpenSpec.ofChange Rows.geometryTileSpec) :=
  OpenClaim.holds_of_wide 7 Try.f7 rfl rfl rfl rfl rfl rfl rfl ⟨rfl, rfl, rfl, rfl, rfl⟩ rfl rfl rfl rfl rfl (by kernel_rfl) Try.func7 (by kernel_rfl)
    (of_decide_eq_true (by kernel_rfl)) (by unfold Func.isWrapper; first | (rw [if_pos (by decide +kernel)]; kernel_rfl) | (rw [if_neg (by decide +kernel)]; exact ⟨rfl, rfl⟩))
    (fun os started H enc _ => liftedGeometryTile os started H enc)

/-- The statement. -/
theorem geometryTile_holds : Rows.GeometryTileSaid := overGeometryTile
#print axioms geometryTile_holds
end Go.Proofs.Ytolfepbelekcoaa
