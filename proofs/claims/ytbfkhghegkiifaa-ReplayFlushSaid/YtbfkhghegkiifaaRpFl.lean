/-
  A list of batches that is put together by appends, inside a region that draws its order.
-/
import Derived.Test.YtbfkhghegkiifaaRpLaw
namespace Go.Proofs.Ytbfkhghegkiifaa
open Go.RowKit Go.WideShapes Go.ChangeShapes
set_option linter.unusedVariables false
structure Fl (w0 W : World) (l : List Bt) (v : Value) : Prop where
  bel : Below w0.heap.size w0 W
  own : W.ownsRow w0.heap.size 34 2 v l.length (l.flatMap Bt.cells)
theorem fl0 (w0 : World) : Fl w0 w0 [] (.slice none 0 0) := ⟨Below.refl _ _, own_nil _ _ _ _⟩
theorem Fl.below {w0 W W' : World} {l : List Bt} {v : Value} (h : Fl w0 W l v) (hb : Below W.heap.size W W') : Fl w0 W' l v := ⟨bel_trans h.bel hb, own_fr (S := fun _ => False) h.own (.of_below hb) (fun _ _ f => f)⟩
theorem Fl.alloc {w0 W : World} {l : List Bt} {v : Value} (h : Fl w0 W l v) (o : Obj) : Fl w0 (W.alloc o) l v := h.below ((Below.refl _ _).alloc (Nat.le_refl _) _)
theorem Fl.drew {w0 W : World} {l : List Bt} {v : Value} (h : Fl w0 W l v) : Fl w0 W.drew l v := h.below (Below.refl _ _).drew
theorem Fl.ins {w0 W : World} {l : List Bt} {v : Value} (h : Fl w0 W l v) (hb : ∀ b ∈ l, BtIn w0 b) : ∃ a c, v = .slice a l.length c ∧ BtsIn W a l := by
  obtain ⟨a, c, e, hv, _⟩ := ownsRow_vals h.own
  exact ⟨a, c, e, hv, fun b hb' => (hb b hb').below h.bel⟩
theorem Fl.insN {w0 W : World} {l : List Bt} {v : Value} {N : Nat} (h : Fl w0 W l v) (hN : l.length = N) (hb : ∀ b ∈ l, BtIn w0 b) : ∃ a c, v = .slice a N c ∧ BtsIn W a l := by
  subst hN
  exact h.ins hb
theorem nilne (g : Nat) : (Value.slice none 0 0).ownBlock ≠ some g := by intro e; cases e
theorem cells_one' (l : List Bt) : ∀ u ∈ l.flatMap Bt.cells, u.oneCell' = true := by
  intro u hu
  obtain ⟨b, _, hu⟩ := List.mem_flatMap.1 hu
  exact b.cells_one u hu
theorem step_fl {w0 w1 : World} {ops : Array Oper} {o : Oper} {a : Act} {K : Act → World → Prop} {Q : Exit → Act → World → Prop} {E : Prop} {l l' : List Bt} {v xv : Value} {m : Nat} (hgd : o.guard = none) (s x : Operand)
    (ho : o.op = .call { callee := .builtin .append, args := #[s, x], argTypes := #[22, 22] })
    (D : Fl w0 w1 l v) (hs : a.eval s = v) (hx : a.eval x = xv) (hsrc : Src w1 2 xv m (l'.flatMap Bt.cells)) (hm : l'.length = m) (hl : l.length + m ≤ 30)
    (h : ∀ v' w', Fl w0 w' (l ++ l') v' → (∀ (g : Nat) (ob : Obj), w1.heap[g]? = some ob → v.ownBlock ≠ some g → w'.heap[g]? = some ob) → K (a.put o.dst v') w') :
    if Region.wanted o (yielded ops a.tmps) = true then Oper.wp Try.prog o a w1 K Q else E := by
  obtain ⟨i0, hz, hz0, hz1, hz2⟩ := info_parts batchinfo
  refine step_app hgd s x 22 ho w0.heap.size 34 i0 _ 2 32 Try.underlying22 hz hz0 hz1 hz2 rfl (by decide) v l.length (l.flatMap Bt.cells) hs D.own _ m (l'.flatMap Bt.cells) hx hsrc (cells_one' l') (by unfold maxLen; omega) (by omega) D.bel.size ?_
  intro v' w' hown hgr
  refine h v' w' ⟨D.bel.grown hgr D.bel.size (fun j hj => (D.own.lt j hj).1), ?_⟩ (fun g ob hg hne => (hgr.block g (blk_ltO hg) (fun e => hne e.symm)).trans hg)
  rw [List.length_append, List.flatMap_append, hm]
  exact hown
theorem BtsIn.src {w W : World} {a : Option Addr} {c n : Nat} {l : List Bt} (h : BtsIn w a l) (hn : l.length = n) (h0 : a = none → n = 0 ∧ c = 0) (hb : Below w.heap.size w W) : Src W 2 (.slice a n c) n (l.flatMap Bt.cells) :=
  ((h.below hb).vals).src (by rw [flat_len Bt.cells 2 Bt.cells_len, hn]) h0
/-- the flush marker's batch -/
def flB (g : Nat) : Bt := ⟨1, some ⟨g, 0, none⟩, 1, [⟨0, 16, 3, 0, none, 0, ByteArray.empty⟩]⟩
theorem flB_in {w : World} {g : Nat} {fr : Nat × Nat} (h : w.heap[g]? = some (.cells #[.int .i64 0, .int .i64 16, .int .i64 3, .slice none 0 0, .slice none 0 0, .int .i64 0] 44 fr)) : BtIn w (flB g) := by
  refine ⟨Vals.lit h, fun f hf => ?_, by show 1 ≤ 8; omega⟩
  unfold flB at hf
  simp only [List.mem_cons, List.not_mem_nil, or_false] at hf
  subst hf
  exact ⟨fun i hi => by rw [byV_len] at hi; exact absurd hi (by show ¬ i < ByteArray.empty.size; simp), show ByteArray.empty.size ≤ 10 by simp⟩
end Go.Proofs.Ytbfkhghegkiifaa
