/-
  What the walks of the statements keep: the target's box, the live regions.
-/
import Derived.Test.YtkafffoaaklhiaaSlRead
namespace Go.Proofs.Ytkafffoaaklhiaa
open Go.RowKit
set_option linter.unusedVariables false
/-- what the walk keeps: the target's box, the live regions -/
structure EndW (w wr : World) (t : Lay) (a : Option Addr) (l : List Reg) : Prop where
  box : wr.heap[w.heap.size]? = some (.cells #[.int .i64 t.id, .int .i64 t.ver, .int .i64 t.rs, .int .i64 t.rg] 23 (0, 0))
  vals : Vals wr a (regC l)
  bel : Below w.heap.size w wr
theorem EndW.below {w wr w' : World} {t : Lay} {a : Option Addr} {l : List Reg} (h : EndW w wr t a l) (hb : Below wr.heap.size wr w') : EndW w w' t a l :=
  ⟨(hb.block _ (blk_lt h.box)).trans h.box, h.vals.below hb (Nat.le_refl _), bel_trans h.bel hb⟩
theorem EndW.reg {w wr : World} {t : Lay} {a : Option Addr} {l : List Reg} (h : EndW w wr t a l) (k : Nat) (r : Reg) (hr : l[k]? = some r) : ∃ b off, a = some ⟨b, off, none⟩ ∧ b < wr.heap.size ∧ RegCells wr b (off + k * 10) r := by
  have hk := (List.getElem?_eq_some_iff.1 hr).1
  obtain ⟨b, off, ha, hb, hc⟩ := h.vals.regs.at k hk
  refine ⟨b, off, ha, hb, ?_⟩
  simp only [hr, Option.getD_some] at hc
  exact hc
end Go.Proofs.Ytkafffoaaklhiaa
