/-
  Slices of regions that can be read; plain laws of the order.
-/
import Derived.Test.YtkafffoaaklhiaaSlAwake
import Derived.Test.YtkafffoaaklhiaaReadReg
import Derived.Test.YtkafffoaaklhiaaRefOv
namespace Go.Proofs.Ytkafffoaaklhiaa
open Go.RowKit Go.Maps Go.ChangeShapes Go.WideShapes Go.ChangeAt
set_option linter.unusedVariables false
theorem regs_vals {w : World} {a : Option Addr} {len : Nat} {f : Nat → Reg} (h : RegsAt w a len f) : Vals w a (regC ((List.range len).map f)) := by
  intro i hi
  rw [regC_len, List.length_map, List.length_range] at hi
  obtain ⟨b, off, ha, hb, hc⟩ := h (i / 10) (by omega)
  refine ⟨b, off, ha, hb, ?_⟩
  have h1 := hc (i % 10) (by omega)
  have e : i / 10 * 10 + i % 10 = i := by omega
  rw [e] at h1
  rw [h1]
  have hp : ((List.range len).map f)[i / 10]? = some (f (i / 10)) := by rw [List.getElem?_map, List.getElem?_range (by omega)]; rfl
  have h2 := regC_at _ (i / 10) _ hp (i % 10) (by omega)
  rw [e] at h2
  exact h2.symm
theorem arg_regl {w : World} {base : Nat} {v : Value} (o : Value.okWide Try.prog w .any base 24 v) (r : Reads Try.prog w 24 v.cells.toList) :
    ∃ a len cap L, v = .slice a len cap ∧ len ≤ cap ∧ cap ≤ 9223372036854775807 ∧ (a = none → len = 0 ∧ cap = 0) ∧ L.length = len ∧ Vals w a (regC L) := by
  obtain ⟨a, len, cap, g, rfl, h1, h2, h3, h4, h5⟩ := arg_rows Try.underlying24 (show Try.prog.cellsOf 36 = 10 from by kernel_rfl) (by omega) o r
  have key : ∀ i, ∃ r : Reg, i < len → g i = r.cells := by
    intro i
    by_cases hi : i < len
    · obtain ⟨r, hr⟩ := (h5 i hi).2.reg
      exact ⟨r, fun _ => hr⟩
    · exact ⟨reg0, fun h => (hi h).elim⟩
  obtain ⟨f, hf⟩ := Classical.axiomOfChoice key
  refine ⟨a, len, cap, (List.range len).map f, rfl, h1, h2, h3, by simp, regs_vals (fun i hi => ?_)⟩
  obtain ⟨b, off, ha, hlt, hc⟩ := h4 i hi
  exact ⟨b, off, ha, hlt, fun j hj => by rw [hc j hj, hf i hi]⟩
theorem vals_take {w : World} {a : Option Addr} {L : List Reg} (h : Vals w a (regC L)) (n : Nat) : Vals w a (regC (L.take n)) := by
  have := h.take ((L.take n).length * 10)
  rwa [show (regC L).take ((L.take n).length * 10) = regC (L.take n) from by
    have e : regC L = regC (L.take n) ++ regC (L.drop n) := by rw [← regC_app, List.take_append_drop]
    rw [e, List.take_append_of_le_length (by rw [regC_len]; exact Nat.le_refl _), List.take_of_length_le (by rw [regC_len]; exact Nat.le_refl _)]] at this
theorem tailD_nil (next : Int) : tailD [] next = next := rfl
theorem tailD_min {l : List Reg} (next : Int) (h : l ≠ []) : ∃ r ∈ l, tailD l next = r.seq ∧ ∀ x ∈ l, r.seq ≤ x.seq := by
  obtain ⟨h1, h2, h3⟩ := sort_all l
  cases hS : sortR l with
  | nil =>
    rw [hS] at h3
    exact absurd (List.eq_nil_of_length_eq_zero h3.symm) h
  | cons r S =>
    refine ⟨r, h2.mem_iff.1 (by rw [hS]; exact List.mem_cons_self), by unfold tailD; rw [hS], fun x hx => ?_⟩
    have hx' := h2.mem_iff.2 hx
    rw [hS] at hx' h1
    rcases List.mem_cons.1 hx' with rfl | hx'
    · exact Int.le_refl _
    · exact (List.pairwise_cons.1 h1).1 x hx'
theorem tailD_le {l : List Reg} (next : Int) : ∀ x ∈ l, tailD l next ≤ x.seq := fun x hx => by
  obtain ⟨r, _, h2, h3⟩ := tailD_min (l := l) next (fun e => by rw [e] at hx; cases hx)
  rw [h2]; exact h3 x hx
theorem tailD_tail {l S : List Reg} {r0 : Reg} (next : Int) (hS : sortR l = r0 :: S) (hne : S ≠ []) : tailD l next ≤ tailD S next := by
  obtain ⟨r, hr, h2, _⟩ := tailD_min next hne
  rw [h2]
  refine tailD_le next r ((sort_all l).2.1.mem_iff.1 ?_)
  rw [hS]; exact List.mem_cons_of_mem _ hr
theorem anyHit_none {t : Lay} {i : Int} {f : Nat → Reg} : ∀ {k : Nat}, anyHit t i f k = false → ∀ j, j < k → overlapB t i (f j).l (f j).slot = false
  | 0, _, j, hj => by omega
  | k + 1, h, j, hj => by
    unfold anyHit at h
    rw [Bool.or_eq_false_iff] at h
    by_cases e : j = k
    · subst e; exact h.2
    · exact anyHit_none h.1 j (by omega)
theorem freeL_mem {t : Lay} {f : Nat → Reg} {len : Nat} : ∀ {k : Nat} {x : Int}, x ∈ freeL t f len k ↔ ∃ j : Nat, j < k ∧ x = (j : Int) ∧ anyHit t (j : Int) f len = false
  | 0, x => by simp [freeL]
  | k + 1, x => by
    unfold freeL
    have ih := @freeL_mem t f len k x
    split
    · rename_i h
      rw [ih]
      constructor
      · rintro ⟨j, h1, h2, h3⟩; exact ⟨j, by omega, h2, h3⟩
      · rintro ⟨j, h1, h2, h3⟩
        refine ⟨j, ?_, h2, h3⟩
        rcases Nat.lt_or_ge j k with h4 | h4
        · exact h4
        · have : j = k := by omega
          subst this; rw [h] at h3; cases h3
    · rename_i h
      rw [List.mem_append, ih]
      constructor
      · rintro (⟨j, h1, h2, h3⟩ | h4)
        · exact ⟨j, by omega, h2, h3⟩
        · simp at h4
          exact ⟨k, by omega, h4, by simpa using h⟩
      · rintro ⟨j, h1, h2, h3⟩
        by_cases e : j = k
        · subst e; exact .inr (by simp [h2])
        · exact .inl ⟨j, by omega, h2, h3⟩
theorem chS_mem {t : Lay} {l : List Reg} (h : chB t l = true) : chS t l ∈ freeQ t l := by
  unfold chB at h
  unfold chS
  cases hq : freeQ t l with
  | nil => rw [hq] at h; cases h
  | cons x q => simp
theorem chS_no {t : Lay} {l : List Reg} (h : chB t l = true) : ∀ r ∈ l, overlapB t (chS t l) r.l r.slot = false := by
  have hm := chS_mem h
  unfold freeQ freeD at hm
  split at hm
  · obtain ⟨j, _, h2, h3⟩ := freeL_mem.1 hm
    intro r hr
    obtain ⟨i, hi, e⟩ := List.getElem_of_mem hr
    have := anyHit_none h3 i hi
    simp only [List.getElem?_eq_getElem hi, Option.getD_some, e] at this
    rw [h2]; exact this
  · cases hm
end Go.Proofs.Ytkafffoaaklhiaa
