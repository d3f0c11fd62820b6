/-
  Plain laws: regions of one layout, and a target with the same region size.
-/
import Derived.Test.YtkafffoaaklhiaaSlRead
namespace Go.Proofs.Ytkafffoaaklhiaa
open Go.RowKit
set_option linter.unusedVariables false
theorem pigeon : ∀ (N : Nat) (L : List Int), L.length < N → ∃ j : Nat, j < N ∧ (j : Int) ∉ L
  | 0, L, h => by omega
  | N + 1, L, h => by
    by_cases hm : (N : Int) ∈ L
    · have hl := List.length_erase_of_mem hm
      have hp : 0 < L.length := List.length_pos_of_mem hm
      obtain ⟨j, hj, hj2⟩ := pigeon N (L.erase (N : Int)) (by omega)
      exact ⟨j, by omega, fun hjm => hj2 ((List.mem_erase_of_ne (by omega)).2 hjm)⟩
    · exact ⟨N, by omega, hm⟩
theorem overlap_same {a b : Lay} {i k : Int} (ha : formB a = true) (hb : formB b = true) (hrs : a.rs = b.rs) (hi : 0 ≤ i ∧ i < a.rg) (hk : 0 ≤ k ∧ k < b.rg) (hne : i ≠ k) : overlapB a i b k = false := by
  have fa : firstD a i = 74 + i * a.rs := by unfold firstD; rw [if_pos ⟨ha, hi⟩]
  have fb : firstD b k = 74 + k * b.rs := by unfold firstD; rw [if_pos ⟨hb, hk⟩]
  obtain ⟨_, _, r1, r2, _⟩ := formB_rng ha
  have key : a.rs ≤ 0 ∨ (i * a.rs + a.rs ≤ k * a.rs ∨ k * a.rs + a.rs ≤ i * a.rs) := by
    right
    rcases Int.lt_or_gt_of_ne hne with h | h
    · left
      have := Int.mul_le_mul_of_nonneg_right (show i + 1 ≤ k by omega) (show 0 ≤ a.rs by omega)
      rw [Int.add_mul] at this; omega
    · right
      have := Int.mul_le_mul_of_nonneg_right (show k + 1 ≤ i by omega) (show 0 ≤ a.rs by omega)
      rw [Int.add_mul] at this; omega
  unfold overlapB
  rw [fa, fb, ← hrs]
  simp only [decide_eq_false_iff_not]
  omega
/-- all regions are of layout L, in its slots -/
def AllOf (L : Lay) (S : List Reg) : Prop := ∀ r ∈ S, r.l = L ∧ 0 ≤ r.slot ∧ r.slot < L.rg
theorem anyHit_all {t : Lay} {i : Int} {f : Nat → Reg} : ∀ {k : Nat}, (∀ j, j < k → overlapB t i (f j).l (f j).slot = false) → anyHit t i f k = false
  | 0, _ => rfl
  | k + 1, h => by
    unfold anyHit
    rw [Bool.or_eq_false_iff]
    exact ⟨anyHit_all (fun j hj => h j (by omega)), h k (by omega)⟩
theorem chB_room {t L : Lay} {S : List Reg} (ht : formB t = true) (hL : formB L = true) (hrs : t.rs = L.rs) (hS : AllOf L S) (hl : (S.length : Int) < t.rg) : chB t S = true := by
  obtain ⟨j, hj, hjn⟩ := pigeon t.rg.toNat (S.map (fun r => r.slot)) (by rw [List.length_map]; omega)
  have hm : (j : Int) ∈ freeQ t S := by
    unfold freeQ freeD
    rw [if_pos ht, freeL_mem]
    refine ⟨j, hj, rfl, anyHit_all (fun i hi => ?_)⟩
    rw [List.getElem?_eq_getElem hi, Option.getD_some]
    obtain ⟨h1, h2, h3⟩ := hS _ (List.getElem_mem hi)
    rw [h1]
    exact overlap_same ht hL hrs ⟨by omega, by omega⟩ ⟨h2, h3⟩ (fun e => hjn (List.mem_map.2 ⟨S[i], List.getElem_mem hi, e.symm⟩))
  unfold chB
  cases hq : freeQ t S with
  | nil => rw [hq] at hm; cases hm
  | cons x q => rfl
theorem sumC_all {L : Lay} : ∀ {S : List Reg}, AllOf L S → sumC S = S.length * capD L
  | [], _ => by simp [sumC]
  | r :: S, h => by
    have h1 := (h r List.mem_cons_self).1
    have h2 := sumC_all (L := L) (S := S) (fun x hx => h x (List.mem_cons_of_mem _ hx))
    simp only [sumC, h1, h2, List.length_cons]
    rw [show ((S.length + 1 : Nat) : Int) = (S.length : Int) + 1 from by omega, Int.add_mul]
    omega
theorem cap_same {t L : Lay} (ht : formB t = true) (hL : formB L = true) (hrs : t.rs = L.rs) : capD t = capD L ∧ 0 < capD L := by
  obtain ⟨_, _, r1, r2, _⟩ := formB_rng hL
  unfold capD
  rw [if_pos ht, if_pos hL, hrs]
  exact ⟨rfl, by omega⟩
theorem cutF_same {t L : Lay} (ht : formB t = true) (hL : formB L = true) (hrs : t.rs = L.rs) : ∀ {S : List Reg}, AllOf L S → cutF t S = S.length - (t.rg - 1).toNat
  | [], _ => by simp [cutF]
  | r :: S, h => by
    obtain ⟨_, _, _, _, g4, g16⟩ := formB_rng ht
    obtain ⟨c1, c2⟩ := cap_same ht hL hrs
    have h2 := cutF_same ht hL hrs (S := S) (fun x hx => h x (List.mem_cons_of_mem _ hx))
    have h3 := sumC_all h
    unfold cutF
    rw [h2, h3, c1]
    by_cases hle : ((r :: S).length : Int) ≤ t.rg - 1
    · rw [if_pos ⟨chB_room ht hL hrs h (by omega), Int.mul_le_mul_of_nonneg_right hle (by omega)⟩]
      omega
    · rw [if_neg]
      · simp only [List.length_cons] at hle ⊢; omega
      · rintro ⟨_, h5⟩
        exact hle (Int.le_of_mul_le_mul_right h5 c2)
theorem allOf_sort {L : Lay} {S : List Reg} (h : AllOf L S) : AllOf L (sortR S) := fun r hr => h r ((sort_all S).2.1.mem_iff.1 hr)
theorem chS_rng {t : Lay} {l : List Reg} (ht : formB t = true) (h : chB t l = true) : 0 ≤ chS t l ∧ chS t l < t.rg := by
  have hm := chS_mem h
  unfold freeQ freeD at hm
  rw [if_pos ht] at hm
  obtain ⟨j, h1, h2, _⟩ := freeL_mem.1 hm
  omega
theorem allOf_app {L : Lay} {S : List Reg} {r : Reg} (h : AllOf L S) (h1 : r.l = L) (h2 : 0 ≤ r.slot) (h3 : r.slot < L.rg) : AllOf L (S ++ [r]) := by
  intro x hx
  rcases List.mem_append.1 hx with hx | hx
  · exact h x hx
  · simp at hx; subst hx; exact ⟨h1, h2, h3⟩
theorem grow_plain {id ver rs g g2 id2 : Int} {Lv : List Reg} (hL : formB ⟨id, ver, rs, g⟩ = true) (ht : formB ⟨id2, ver, rs, g2⟩ = true) (hg : g ≤ g2) (hS : AllOf ⟨id, ver, rs, g⟩ Lv) (hm : (Lv.length : Int) ≤ g - 1) :
    cutD ⟨id2, ver, rs, g2⟩ Lv = 0 ∧ chB ⟨id2, ver, rs, g2⟩ Lv = true ∧ 0 ≤ chS ⟨id2, ver, rs, g2⟩ Lv ∧ chS ⟨id2, ver, rs, g2⟩ Lv < g2 := by
  have hb := chB_room (t := ⟨id2, ver, rs, g2⟩) ht hL rfl hS (by show (Lv.length : Int) < g2; omega)
  refine ⟨?_, hb, (chS_rng ht hb).1, (chS_rng ht hb).2⟩
  unfold cutD
  rw [if_pos ht, cutF_same ht hL rfl (allOf_sort hS), (sort_all Lv).2.2]
  show Lv.length - (g2 - 1).toNat = 0
  omega
theorem shrink_plain {id ver rs g g2 id2 : Int} {Lv : List Reg} (hL : formB ⟨id, ver, rs, g⟩ = true) (ht : formB ⟨id2, ver, rs, g2⟩ = true) (hS : AllOf ⟨id, ver, rs, g⟩ Lv) : cutD ⟨id2, ver, rs, g2⟩ Lv = Lv.length - (g2 - 1).toNat := by
  unfold cutD
  rw [if_pos ht, cutF_same ht hL rfl (allOf_sort hS), (sort_all Lv).2.2]
theorem form_shrink {id ver rs g id2 g2 : Int} (h : formB ⟨id, ver, rs, g⟩ = true) (h1 : 1 ≤ id2) (h2 : id2 ≤ 4294967295) (h3 : 4 ≤ g2) (h4 : g2 ≤ 16) : formB ⟨id2, ver, rs, g2⟩ = true := by
  unfold formB at h ⊢
  rw [decide_eq_true_iff] at h ⊢
  exact ⟨h1, h2, h.2.2.1, h.2.2.2.1, h3, h4⟩
theorem and_seven (x : Int) : ∃ m : Nat, m ≤ 7 ∧ bits .and .i64 x 7 = (m : Int) := by
  have h1 : (BitVec.ofInt 64 x &&& BitVec.ofInt 64 7).toNat ≤ 7 := by
    rw [BitVec.toNat_and]
    have : (BitVec.ofInt 64 7).toNat = 7 := by decide
    rw [this]
    exact Nat.and_le_right
  refine ⟨(BitVec.ofInt 64 x &&& BitVec.ofInt 64 7).toNat, h1, ?_⟩
  show IntKind.i64.wrap ((BitVec.ofInt 64 x &&& BitVec.ofInt 64 7).toNat : Nat) = _
  rw [IntWalk.i64_in _ ⟨by omega, by omega⟩]
end Go.Proofs.Ytkafffoaaklhiaa
