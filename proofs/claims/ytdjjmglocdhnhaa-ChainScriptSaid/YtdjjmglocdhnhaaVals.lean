/-
  'Vals w a n vs': n cells from a slice's address on, the values vs.
-/
import Derived.Test.YtdjjmglocdhnhaaMem
import Derived.Test.YtdjjmglocdhnhaaFrame
namespace Go.Proofs.Ytdjjmglocdhnhaa
open Go.RowKit
def Vals (w : World) (a : Option Addr) (vs : List Value) : Prop :=
  ∀ i, i < vs.length → ∃ b off, a = some ⟨b, off, none⟩ ∧ b < w.heap.size ∧ w.cell? ⟨b, off + i, none⟩ = vs[i]?
theorem Vals.nil {w : World} {a : Option Addr} : Vals w a [] := fun i hi => by simp at hi
theorem Vals.at {w : World} {a : Option Addr} {vs : List Value} (h : Vals w a vs) (i : Nat) {v : Value} (hv : vs[i]? = some v) : ∃ b off, a = some ⟨b, off, none⟩ ∧ b < w.heap.size ∧ w.cell? ⟨b, off + i, none⟩ = some v := by
  obtain ⟨b, off, h1, h2, h3⟩ := h i (List.getElem?_eq_some_iff.1 hv).1
  exact ⟨b, off, h1, h2, h3.trans hv⟩
theorem Vals.below {w w' : World} {B : Nat} {a : Option Addr} {vs : List Value} (h : Vals w a vs) (hb : Below B w w') (hB : w.heap.size ≤ B) : Vals w' a vs := by
  intro i hi
  obtain ⟨b, off, ha, hlt, hc⟩ := h i hi
  refine ⟨b, off, ha, Nat.lt_of_lt_of_le hlt hb.size, ?_⟩
  rw [hb.cell (by show b < B; omega)]; exact hc
theorem Vals.fr {w w' : World} {S : Nat → Prop} {a : Option Addr} {vs : List Value} (h : Vals w a vs) (hf : Fr S w w') (hS : ∀ b off, a = some ⟨b, off, none⟩ → ¬ S b) : Vals w' a vs := by
  intro i hi
  obtain ⟨b, off, ha, hlt, hc⟩ := h i hi
  refine ⟨b, off, ha, Nat.lt_of_lt_of_le hlt hf.size, ?_⟩
  rw [World.cell?_of_block (w := w) (a := ⟨b, off + i, none⟩) (hf.block b hlt (hS b off ha))]; exact hc
theorem Vals.drewN {w : World} {a : Option Addr} {vs : List Value} (h : Vals w a vs) (n : Nat) : Vals (w.drewN n) a vs := h
theorem Vals.take {w : World} {a : Option Addr} {vs : List Value} (h : Vals w a vs) (n : Nat) : Vals w a (vs.take n) := by
  intro i hi
  obtain ⟨b, off, ha, hlt, hc⟩ := h i (by simp at hi; omega)
  refine ⟨b, off, ha, hlt, ?_⟩
  rw [hc, List.getElem?_take, if_pos (by simp at hi; omega)]
theorem Vals.drop {w : World} {b off : Nat} {vs : List Value} (h : Vals w (some ⟨b, off, none⟩) vs) (n : Nat) : Vals w (some ⟨b, off + n, none⟩) (vs.drop n) := by
  intro i hi
  obtain ⟨b', off', ha, hlt, hc⟩ := h (n + i) (by simp at hi; omega)
  simp only [Option.some.injEq, Addr.mk.injEq, and_true] at ha
  obtain ⟨rfl, rfl⟩ := ha
  refine ⟨b, off + n, rfl, hlt, ?_⟩
  rw [List.getElem?_drop, Nat.add_assoc]; exact hc
theorem ownsRow_vals {w : World} {base : Nat} {e : TypeId} {size : Nat} {v : Value} {n : Nat} {vs : List Value} (h : w.ownsRow base e size v n vs) :
    ∃ a cap, v = .slice a n cap ∧ Vals w a vs ∧ n ≤ cap ∧ cap ≤ maxLen ∧ vs.length = n * size ∧ (a = none → n = 0 ∧ cap = 0) ∧ ∀ b off, a = some ⟨b, off, none⟩ → base ≤ b ∧ b < w.heap.size ∧ v.ownBlock = some b := by
  obtain ⟨hl, hv⟩ := id h
  rcases hv with ⟨rfl, rfl⟩ | ⟨g, cap, cur, rfl, hb, hg, hn, hm, hc, ht⟩
  · refine ⟨none, 0, rfl, fun i hi => ?_, Nat.le_refl _, by unfold maxLen; omega, hl, fun _ => ⟨rfl, rfl⟩, fun b off hh => by cases hh⟩
    simp at hl
    subst hl
    simp at hi
  · refine ⟨_, cap, rfl, fun i hi => ⟨g, 0, rfl, (Array.getElem?_eq_some_iff.1 hg).1, ?_⟩, hn, hm, hl, (fun hh => by cases hh), fun b off hh => ?_⟩
    · rw [show 0 + i = i from by omega, h.cellAt i (by omega)]
    · cases hh; exact ⟨hb, (Array.getElem?_eq_some_iff.1 hg).1, rfl⟩
theorem Vals.lit {w : World} {g : Nat} {cs : Array Value} {t : TypeId} {fr : Nat × Nat} (h : w.heap[g]? = some (.cells cs t fr)) : Vals w (some ⟨g, 0, none⟩) cs.toList := by
  intro i hi
  refine ⟨g, 0, rfl, (Array.getElem?_eq_some_iff.1 h).1, ?_⟩
  rw [Nat.zero_add, cell_of_row w g i cs t fr h, Array.getElem?_toList]
theorem Vals.new (w : World) (cs : Array Value) (t : TypeId) : Vals (w.alloc (.cells cs t)) (some ⟨w.heap.size, 0, none⟩) cs.toList :=
  Vals.lit (t := t) (fr := (0, 0)) (by show (w.heap.push _)[w.heap.size]? = _; simp)
/-- such a row as what append reads -/
theorem Vals.src {w : World} {a : Option Addr} {m cap size : Nat} {vs : List Value} (h : Vals w a vs) (hl : vs.length = m * size) (h0 : a = none → m = 0 ∧ cap = 0) : Src w size (.slice a m cap) m vs := by
  refine ⟨hl, ?_⟩
  cases a with
  | none => obtain ⟨rfl, rfl⟩ := h0 rfl; exact .inl ⟨rfl, rfl⟩
  | some ad =>
    refine .inr ⟨ad, cap, rfl, fun j u hu => ?_⟩
    obtain ⟨b, off, ha, _, hc⟩ := h.at j hu
    simp only [Option.some.injEq] at ha
    subst ha
    rw [Go.WideShapes.add_plain]
    exact hc
end Go.Proofs.Ytdjjmglocdhnhaa
