/-
  The table beside a box.
-/
import Derived.Test.YtbfkhghegkiifaaTabPairs
namespace Go.Proofs.Ytbfkhghegkiifaa
open Go.RowKit
set_option linter.unusedVariables false
theorem blk_ltO {w : World} {g : Nat} {o : Obj} (h : w.heap[g]? = some o) : g < w.heap.size := (Array.getElem?_eq_some_iff.1 h).1
structure TbxP (w0 w : World) (tb : Nat) (vn vo : Value) (T : Tab) (g : Nat) (o : Obj) : Prop where
  tb' : Tb w tb vn vo T
  ti : TI T
  new : ∀ j, tfoot tb vn vo j → w0.heap.size ≤ j
  dis : ¬ tfoot tb vn vo g
  blk : w.heap[g]? = some o
  bel : Below w0.heap.size w0 w
/-- a table newer than w0, and a block that is none of its own -/
def Tbx (w0 w : World) (tb : Nat) (T : Tab) (g : Nat) (o : Obj) : Prop := ∃ vn vo, TbxP w0 w tb vn vo T g o
theorem Tbx.bel {w0 w : World} {tb : Nat} {T : Tab} {g : Nat} {o : Obj} (h : Tbx w0 w tb T g o) : Below w0.heap.size w0 w := by obtain ⟨_, _, d⟩ := h; exact d.bel
theorem Tbx.blk {w0 w : World} {tb : Nat} {T : Tab} {g : Nat} {o : Obj} (h : Tbx w0 w tb T g o) : w.heap[g]? = some o := by obtain ⟨_, _, d⟩ := h; exact d.blk
theorem Tbx.tob {w0 w : World} {tb : Nat} {T : Tab} {g : Nat} {o : Obj} (h : Tbx w0 w tb T g o) : Tob w0 w tb T := by
  obtain ⟨vn, vo, d⟩ := h
  exact ⟨vn, vo, d.tb', d.ti, d.new, d.bel⟩
theorem tbx_mk {w0 w : World} {tb : Nat} {T : Tab} (h : Tob w0 w tb T) (o : Obj) : Tbx w0 (w.alloc o) tb T w.heap.size o := by
  obtain ⟨vn, vo, t, ti, hn, hb⟩ := h
  have hbx : Below w.heap.size w (w.alloc o) := (Below.refl _ _).alloc (Nat.le_refl _) _
  refine ⟨vn, vo, t.below hbx, ti, hn, fun hj => ?_, ?_, bel_trans hb hbx⟩
  · have := t.lt _ hj; omega
  · show (w.heap.push _)[w.heap.size]? = _
    simp
theorem Tbx.below {w0 w w' : World} {tb : Nat} {T : Tab} {g : Nat} {o : Obj} (h : Tbx w0 w tb T g o) (hb : Below w.heap.size w w') : Tbx w0 w' tb T g o := by
  obtain ⟨vn, vo, d⟩ := h
  exact ⟨vn, vo, d.tb'.below hb, d.ti, d.new, d.dis, (hb.block g (blk_ltO d.blk)).trans d.blk, bel_trans d.bel hb⟩
theorem TbxP.step {w0 w w1 w' : World} {tb : Nat} {vn vo vn' vo' : Value} {T T' : Tab} {g : Nat} {o : Obj} (h : TbxP w0 w tb vn vo T g o) (t : Tb w' tb vn' vo' T') (ti : TI T') (st : St w w' tb vn vo vn' vo') : Tbx w0 w' tb T' g o := by
  have hg := blk_ltO h.blk
  refine ⟨vn', vo', t, ti, fun j hj => ?_, fun hj => ?_, (st.fr.block g hg h.dis).trans h.blk, Fr.below h.bel st.fr h.bel.size h.new⟩
  · rcases st.own j hj with e | e
    · exact h.new j e
    · exact Nat.le_trans h.bel.size e
  · rcases st.own g hj with e | e
    · exact h.dis e
    · omega
theorem tbx_set (tb : Nat) (T : Tab) (g : Nat) (o : Obj) (k : ByteArray) (e : Ent) (w0 w : World) (h : Tbx w0 w tb T g o) (hk : k.size ≤ 9223372036854775807) (hs : T.tot ≤ 1000000) :
    Calls Try.prog 14 #[.pointer (some ⟨tb, 0, none⟩), .string k, entV e] w fun e' w' => e' = .returned (.tuple #[]) ∧ ∃ T', Tbx w0 w' tb T' g o ∧ SetI T T' k e := by
  obtain ⟨vn, vo, d⟩ := h
  refine (set9 tb vn vo T k e w d.tb' d.ti hk hs).mono ?_
  rintro e' w' ⟨rfl, vn', vo', T', t, st, si⟩
  exact ⟨rfl, T', d.step (w1 := w) t si.ti st, si⟩
theorem tbx_del (tb : Nat) (T : Tab) (g : Nat) (o : Obj) (k : ByteArray) (w0 w : World) (h : Tbx w0 w tb T g o) (hk : k.size ≤ 9223372036854775807) :
    Calls Try.prog 15 #[.pointer (some ⟨tb, 0, none⟩), .string k] w fun e' w' => ∃ b T', e' = .returned (.bool b) ∧ Tbx w0 w' tb T' g o ∧ DelI T T' k b := by
  obtain ⟨vn, vo, d⟩ := h
  refine (del13 tb vn vo T k w d.tb' d.ti hk).mono ?_
  rintro e' w' ⟨b, vo', T', rfl, t, st, si⟩
  exact ⟨b, T', rfl, d.step (w1 := w) t si.ti st, si⟩
theorem tbx_new (tb : Nat) (T : Tab) (g : Nat) (o : Obj) (w0 w : World) (h : Tbx w0 w tb T g o) :
    Calls Try.prog 13 #[] w fun e' w' => ∃ tb' T', e' = .returned (.pointer (some ⟨tb', 0, none⟩)) ∧ Tbx w0 w' tb' T' g o ∧ T'.tot = 0 ∧ ∀ k e, ¬ Has T' k e := by
  obtain ⟨vn, vo, d⟩ := h
  have hg := blk_ltO d.blk
  refine (new_ob w).mono ?_
  rintro e' w' ⟨tb', T', rfl, o1, n1, m1⟩
  obtain ⟨vn', vo', t, ti, hn, hb⟩ := o1
  exact ⟨tb', T', rfl, ⟨vn', vo', t, ti, fun j hj => Nat.le_trans d.bel.size (hn j hj), fun hj => by have := hn g hj; omega, (hb.block g hg).trans d.blk, bel_trans d.bel hb⟩, n1, m1⟩
end Go.Proofs.Ytbfkhghegkiifaa
