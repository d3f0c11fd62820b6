/-
  A reference's list: a block of one cell, which leads to the list's elements, C cells each. append as a step of a region that draws.
-/
import Derived.Test.YtdjjmglocdhnhaaVals
import Derived.Deep.RegionHeld3
import Derived.Deep.AppendLies
namespace Go.Proofs.Ytdjjmglocdhnhaa
open Go.RowKit
set_option linter.unusedVariables false
/-- the object at block bm: a slice of n elements, C cells each, which read as cs; R: the blocks that it reads -/
structure RLp (w : World) (bm : Nat) (t : TypeId) (C n : Nat) (cs : List Value) (a : Option Addr) (cap : Nat) : Prop where
  blk : w.heap[bm]? = some (.cells #[.slice a n cap] t (0, 0))
  vals : Vals w a cs
  len : cs.length = n * C
  le : n ≤ cap
  max : cap ≤ maxLen
  nil : a = none → n = 0 ∧ cap = 0
  plain : ∀ x, a = some x → ∃ g off, x = ⟨g, off, none⟩ ∧ g ≠ bm ∧ g < w.heap.size
def RL (w : World) (bm : Nat) (t : TypeId) (C n : Nat) (cs : List Value) (R : Nat → Prop) : Prop :=
  ∃ a cap, RLp w bm t C n cs a cap ∧ R = fun k => k = bm ∨ ∃ off, a = some ⟨k, off, none⟩
theorem RL.lt {w : World} {bm : Nat} {t : TypeId} {C n : Nat} {cs : List Value} {R : Nat → Prop} (h : RL w bm t C n cs R) : ∀ k, R k → k < w.heap.size := by
  obtain ⟨a, cap, p, rfl⟩ := h
  rintro k (rfl | ⟨off, rfl⟩)
  · exact (Array.getElem?_eq_some_iff.1 p.blk).1
  · obtain ⟨g, off', e, _, hlt⟩ := p.plain _ rfl
    cases e; exact hlt
theorem RL.frame {w w' : World} {bm : Nat} {t : TypeId} {C n : Nat} {cs : List Value} {R T : Nat → Prop} (h : RL w bm t C n cs R) (hf : Fr T w w') (hd : ∀ k, R k → ¬ T k) : RL w' bm t C n cs R := by
  have hlt := h.lt
  obtain ⟨a, cap, p, rfl⟩ := h
  refine ⟨a, cap, ⟨(hf.block bm (hlt bm (.inl rfl)) (hd bm (.inl rfl))).trans p.blk, p.vals.fr hf (fun b off e => hd b (.inr ⟨off, e⟩)), p.len, p.le, p.max, p.nil, fun x hx => ?_⟩, rfl⟩
  obtain ⟨g, off, e, hne, hg⟩ := p.plain x hx
  exact ⟨g, off, e, hne, Nat.lt_of_lt_of_le hg hf.size⟩
/-- a new row is stored -/
theorem RL.store {w w2 : World} {bm : Nat} {t e : TypeId} {C n m base : Nat} {cs ds : List Value} {R : Nat → Prop} {a : Option Addr} {cap : Nat} (h : RL w bm t C n cs R) (hb : Below w.heap.size w w2) (hown : w2.ownsRow base e C (.slice a m cap) m ds) (hbase : w.heap.size ≤ base) :
    ∃ R', RL (w2.setCell ⟨bm, 0, none⟩ (.slice a m cap)) bm t C m ds R' ∧ Fr (fun k => k = bm) w (w2.setCell ⟨bm, 0, none⟩ (.slice a m cap)) ∧ ∀ j, R' j → R j ∨ w.heap.size ≤ j := by
  obtain ⟨a0, cap0, p, rfl⟩ := h
  have hbm := (Array.getElem?_eq_some_iff.1 p.blk).1
  have hblk : w2.heap[bm]? = some (.cells #[.slice a0 n cap0] t (0, 0)) := (hb.block bm hbm).trans p.blk
  have hsz : (w2.setCell ⟨bm, 0, none⟩ (.slice a m cap)).heap.size = w2.heap.size := by simp [World.setCell]
  have hother : ∀ k, k ≠ bm → (w2.setCell ⟨bm, 0, none⟩ (.slice a m cap)).heap[k]? = w2.heap[k]? := fun k hk => Below.heap_setCell _ _ _ _ hk
  obtain ⟨a', cap', e, hv, h1, h2, h3, h4, h5⟩ := ownsRow_vals hown
  cases e
  have hfr : Fr (fun k => k = bm) w2 (w2.setCell ⟨bm, 0, none⟩ (.slice a m cap)) := ⟨rfl, rfl, rfl, by omega, fun k hk hne => hother k hne⟩
  refine ⟨_, ⟨a, cap, ⟨?_, hv.fr hfr (fun b off e => by have := (h5 b off e).1; omega), h3, h1, h2, h4, fun x hx => ?_⟩, rfl⟩, (Fr.of_below (S := fun k => k = bm) hb).trans hfr (fun j hj => .inl hj), ?_⟩
  · rw [blk_set hblk]; rfl
  · rcases hown.2 with ⟨e, _⟩ | ⟨g, cap2, cur, e, hg, hh, _⟩
    · cases e; cases hx
    · cases e
      cases hx
      exact ⟨g, 0, rfl, by omega, by rw [hsz]; exact (Array.getElem?_eq_some_iff.1 hh).1⟩
  · rintro j (e | ⟨off, e⟩)
    · exact .inl (.inl e)
    · exact .inr (Nat.le_trans hbase (h5 j off e).1)
/-- append as a step of a region that draws its order -/
theorem step_app {P : Program} {w : World} {ops : Array Oper} {o : Oper} {a : Act} {K : Act → World → Prop} {Q : Exit → Act → World → Prop} {E : Prop} (hgd : o.guard = none) (s x : Operand) (t : TypeId)
    (ho : o.op = .call { callee := .builtin .append, args := #[s, x], argTypes := #[t, t] })
    (base : Nat) (e : TypeId) (i : TypeInfo) (z : Value) (size bytes : Nat) (ht : P.underlying t = some (.slice e)) (hi : P.info? e = some i) (hz : i.zero = some z)
    (hsize : i.size = size) (hby : i.bytes = bytes) (hzs : z.cells.size = size) (hsz : 0 < size)
    (v : Value) (n : Nat) (xs : List Value) (hs : a.eval s = v) (hown : w.ownsRow base e size v n xs)
    (xv : Value) (m : Nat) (news : List Value) (hx : a.eval x = xv) (hsrc : Src w size xv m news) (h1 : ∀ u ∈ news, u.oneCell' = true)
    (h63 : n + m ≤ maxLen) (hbytes : (n + m) * bytes ≤ 140737488355328) (hbase : base ≤ w.heap.size)
    (h : ∀ v' w', w'.ownsRow base e size v' (n + m) (xs ++ news) → w.grownBy w' v.ownBlock → K (a.put o.dst v') w') :
    if Region.wanted o (yielded ops a.tmps) = true then Oper.wp P o a w K Q else E := by
  have hw : Region.wanted o (yielded ops a.tmps) = true := by simp [Region.wanted, hgd]
  rw [if_pos hw]
  obtain ⟨v', w', hr, h2, h3⟩ := run_app (P := P) (w := w) base t o.type e i z size bytes ht hi hz hsize hby hzs hsz v n xs hown xv m news hsrc h1 h63 hbytes hbase
  unfold Oper.wp execOp
  simp only [ho, resolve, invoke, builtin, Sem.run_bind, Sem.run_pure, Result.andThen_ok, List.map_toArray, List.map_cons, List.map_nil, hs, hx, hr]
  exact h v' w' h2 h3
theorem ownsRow_slice {w : World} {base : Nat} {e : TypeId} {size : Nat} {v : Value} {n : Nat} {vs : List Value} (h : w.ownsRow base e size v n vs) : ∃ a cap, v = .slice a n cap := by
  obtain ⟨a, cap, h, _⟩ := ownsRow_vals h
  exact ⟨a, cap, h⟩
/-- what the region of such a statement keeps: the object's cell, and all that is old -/
theorem keepG1 {w0 W w' : World} {bm : Nat} {v : Value} (h : W.cell? ⟨bm, 0, none⟩ = some v ∧ W.frozen? ⟨bm, 0, none⟩ = false ∧ Below w0.heap.size w0 W) (hb : bm < w0.heap.size) (hg : W.grownBy w' (Value.slice none 0 0).ownBlock) :
    w'.cell? ⟨bm, 0, none⟩ = some v ∧ w'.frozen? ⟨bm, 0, none⟩ = false ∧ Below w0.heap.size w0 w' := by
  obtain ⟨h1, h2, h3⟩ := h
  have hs := h3.size
  refine ⟨?_, ?_, h3.grown hg h3.size (fun j hj => by cases hj)⟩
  · rw [hg.cell_far _ (by show bm < _; omega) (by simp [Value.ownBlock])]; exact h1
  · rw [hg.frozen_far _ (by show bm < _; omega) (by simp [Value.ownBlock])]; exact h2
theorem keepG2 {w0 W w' : World} {bm e size n : Nat} {v u : Value} {xs : List Value} (h : W.cell? ⟨bm, 0, none⟩ = some v ∧ W.frozen? ⟨bm, 0, none⟩ = false ∧ Below w0.heap.size w0 W) (hb : bm < w0.heap.size) (ho : W.ownsRow w0.heap.size e size u n xs) (hg : W.grownBy w' u.ownBlock) :
    w'.cell? ⟨bm, 0, none⟩ = some v ∧ w'.frozen? ⟨bm, 0, none⟩ = false ∧ Below w0.heap.size w0 w' := by
  obtain ⟨h1, h2, h3⟩ := h
  have hs := h3.size
  have hne : some bm ≠ u.ownBlock := fun e => by have := (ho.lt bm e.symm).1; omega
  refine ⟨?_, ?_, h3.grown hg h3.size (fun j hj => (ho.lt j hj).1)⟩
  · rw [hg.cell_far _ (by show bm < _; omega) hne]; exact h1
  · rw [hg.frozen_far _ (by show bm < _; omega) hne]; exact h2
theorem keepG3 {w0 W : World} {bm : Nat} {v : Value} {o : Obj} (h : W.cell? ⟨bm, 0, none⟩ = some v ∧ W.frozen? ⟨bm, 0, none⟩ = false ∧ Below w0.heap.size w0 W) (hb : bm < w0.heap.size) :
    (W.alloc o).cell? ⟨bm, 0, none⟩ = some v ∧ (W.alloc o).frozen? ⟨bm, 0, none⟩ = false ∧ Below w0.heap.size w0 (W.alloc o) := by
  obtain ⟨h1, h2, h3⟩ := h
  have hs := h3.size
  have hg := World.grownBy_alloc W o none
  refine ⟨?_, ?_, h3.alloc h3.size o⟩
  · rw [hg.cell_far _ (by show bm < _; omega) (by simp)]; exact h1
  · rw [hg.frozen_far _ (by show bm < _; omega) (by simp)]; exact h2
theorem keepG4 {w0 W : World} {bm : Nat} {v : Value} {o : Obj} (h : W.cell? ⟨bm, 0, none⟩ = some v ∧ W.frozen? ⟨bm, 0, none⟩ = false ∧ Below w0.heap.size w0 W) (hb : bm < w0.heap.size) :
    (W.alloc o).drew.cell? ⟨bm, 0, none⟩ = some v ∧ (W.alloc o).drew.frozen? ⟨bm, 0, none⟩ = false ∧ Below w0.heap.size w0 (W.alloc o).drew := by
  obtain ⟨h1, h2, h3⟩ := keepG3 (o := o) h hb
  exact ⟨h1, h2, h3.drew⟩
theorem own_nil (w : World) (base : Nat) (e : TypeId) (size : Nat) : w.ownsRow base e size (.slice none 0 0) 0 [] := ⟨by simp, .inl ⟨rfl, rfl⟩⟩
end Go.Proofs.Ytdjjmglocdhnhaa
