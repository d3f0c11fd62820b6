/-
  Small facts for the laws on the chain.
-/
import Derived.Test.YtdjjmglocdhnhaaChLaw
import Derived.Laws.StructEq
namespace Go.Proofs.Ytdjjmglocdhnhaa
open Go.RowKit
set_option linter.unusedVariables false
theorem and_three (x : Int) : ∃ m : Nat, m ≤ 3 ∧ bits .and .i64 x 3 = (m : Int) := by
  have h1 : (BitVec.ofInt 64 x &&& BitVec.ofInt 64 3).toNat ≤ 3 := by
    rw [BitVec.toNat_and]
    have : (BitVec.ofInt 64 3).toNat = 3 := by decide
    rw [this]
    exact Nat.and_le_right
  refine ⟨(BitVec.ofInt 64 x &&& BitVec.ofInt 64 3).toNat, h1, ?_⟩
  show IntKind.i64.wrap ((BitVec.ofInt 64 x &&& BitVec.ofInt 64 3).toNat : Nat) = _
  rw [IntWalk.i64_in _ ⟨by omega, by omega⟩]
theorem and_fifteen (x : Int) : ∃ m : Nat, m ≤ 15 ∧ bits .and .i64 x 15 = (m : Int) := by
  have h1 : (BitVec.ofInt 64 x &&& BitVec.ofInt 64 15).toNat ≤ 15 := by
    rw [BitVec.toNat_and]
    have : (BitVec.ofInt 64 15).toNat = 15 := by decide
    rw [this]
    exact Nat.and_le_right
  refine ⟨(BitVec.ofInt 64 x &&& BitVec.ofInt 64 15).toNat, h1, ?_⟩
  show IntKind.i64.wrap ((BitVec.ofInt 64 x &&& BitVec.ofInt 64 15).toNat : Nat) = _
  rw [IntWalk.i64_in _ ⟨by omega, by omega⟩]
theorem wf_nat (m : Nat) (h : m ≤ 1000000) : (Lit.int .i64 (m : Int)).wf = true := by
  simp [Lit.wf, IntKind.min, IntKind.max, IntKind.signed, IntKind.bits]
  omega
theorem neqIt (o : Int) (k : ByteArray) (w : World) : Sem.run Try.prog (binOp .neq 32 (.agg #[.int .i64 o, .string k]) (.agg #[.int .i64 o, .string k])) w = .ok (.bool false) w := by
  have hS : Try.prog.underlying 32 = some (.struct (Try.prog.fieldsOf 32)) := by kernel_rfl
  have hp : Try.prog.stoodInHeld 32 = false := by kernel_rfl
  rw [run_neq_struct, show (10000 : Nat) = 9999 + 1 from rfl, run_equalIn_agg w 9999 32 _ _ hS hp]
  have u3 := Try.underlying3
  have a3 := Try.isAgg3
  have z3 := Try.sizeOf3
  have u9 := Try.underlying9
  have a9 := Try.isAgg9
  have z9 := Try.sizeOf9
  simp only [Program.fieldsOf, Try.underlying32]
  go_simp
theorem own_ne {w : World} {base base' : Nat} {e e' : TypeId} {size size' : Nat} {v v' : Value} {n n' : Nat} {xs xs' : List Value} (h : w.ownsRow base e size v n xs) (k : w.ownsRow base' e' size' v' n' xs') (hne : e ≠ e') : ∀ g, v.ownBlock = some g → v'.ownBlock ≠ some g := by
  intro g hg hg'
  rcases h.2 with ⟨rfl, _⟩ | ⟨b, cap, cur, rfl, _, hb, _⟩
  · cases hg
  · rcases k.2 with ⟨rfl, _⟩ | ⟨b', cap', cur', rfl, _, hb', _⟩
    · cases hg'
    · cases hg; cases hg'
      rw [hb] at hb'
      injection hb' with hb'
      injection hb' with _ hb' _
      exact hne hb'
theorem own_far {w w' : World} {base base' : Nat} {e e' : TypeId} {size size' : Nat} {v v' : Value} {n n' : Nat} {xs xs' : List Value} (h : w.ownsRow base e size v n xs) (k : w.ownsRow base' e' size' v' n' xs') (hne : e ≠ e') (g : w.grownBy w' v'.ownBlock) : w'.ownsRow base e size v n xs :=
  own_same h (fun b hb => g.block b (h.lt b hb).2 (fun e => own_ne h k hne b hb e.symm))
/-- the rows of items of the regions below k, kept in a row -/
structure Bef (wL wr : World) (L : List It) (k : Nat) (v : Value) (vs : List Value) : Prop where
  bel : Below wL.heap.size wL wr
  own : wr.ownsRow wL.heap.size 29 1 v k vs
  its : ∀ (j : Nat) (x : Value), vs[j]? = some x → wr.ownsRow wL.heap.size 32 2 x (itsI L (j : Int)).length ((itsI L (j : Int)).flatMap itC2)
theorem Bef.fr {wL wr w' : World} {L : List It} {k : Nat} {v : Value} {vs : List Value} {S : Nat → Prop} (h : Bef wL wr L k v vs) (hf : Fr S wr w') (hS : ∀ j, S j → j < wL.heap.size) : wr.heap.size ≤ w'.heap.size ∧ w'.ownsRow wL.heap.size 29 1 v k vs ∧ ∀ (j : Nat) (x : Value), vs[j]? = some x → w'.ownsRow wL.heap.size 32 2 x (itsI L (j : Int)).length ((itsI L (j : Int)).flatMap itC2) :=
  ⟨hf.size, own_fr h.own hf (fun g hg e => by have := (h.own.lt g hg).1; have := hS g e; omega), fun j x hx => own_fr (h.its j x hx) hf (fun g hg e => by have := ((h.its j x hx).lt g hg).1; have := hS g e; omega)⟩
theorem Bef.below {wL wr w' : World} {L : List It} {k : Nat} {v : Value} {vs : List Value} (h : Bef wL wr L k v vs) (hb : Below wr.heap.size wr w') : Bef wL w' L k v vs :=
  ⟨bel_trans h.bel hb, own_fr (S := fun _ => False) h.own (.of_below hb) (fun _ _ f => f), fun j x hx => own_fr (S := fun _ => False) (h.its j x hx) (.of_below hb) (fun _ _ f => f)⟩
theorem Bef.app {wL wr w1 w2 : World} {L : List It} {k : Nat} {v v2 x : Value} {vs : List Value} {o : Obj} (h : Bef wL w1 L k v vs) (hx : w1.ownsRow wL.heap.size 32 2 x (itsI L (k : Int)).length ((itsI L (k : Int)).flatMap itC2)) (hl : vs.length = k)
    (own2 : w2.ownsRow wL.heap.size 29 1 v2 (k + 1) (vs ++ [x])) (g : (w1.alloc o).grownBy w2 v.ownBlock) : Bef wL w2 L (k + 1) v2 (vs ++ [x]) := by
  refine ⟨(h.bel.alloc h.bel.size o).grown g (h.bel.alloc h.bel.size o).size (fun j hj => (h.own.lt j hj).1), own2, fun j y hy => ?_⟩
  have hb : ∀ y', w1.ownsRow wL.heap.size 32 2 y' (itsI L (j : Int)).length ((itsI L (j : Int)).flatMap itC2) → w2.ownsRow wL.heap.size 32 2 y' (itsI L (j : Int)).length ((itsI L (j : Int)).flatMap itC2) := fun y' hy' => own_far (hy'.alloc o) (h.own.alloc o) (by decide) g
  by_cases hj : j < vs.length
  · rw [List.getElem?_append_left hj] at hy
    exact hb y (h.its j y hy)
  · rw [List.getElem?_append_right (by omega)] at hy
    have : j - vs.length = 0 := by
      rcases Nat.eq_zero_or_pos (j - vs.length) with e | e
      · exact e
      · rw [List.getElem?_eq_none (by simp; omega)] at hy; cases hy
    rw [this] at hy
    simp at hy
    subst hy
    obtain rfl : j = k := by omega
    exact hb x hx
end Go.Proofs.Ytdjjmglocdhnhaa
