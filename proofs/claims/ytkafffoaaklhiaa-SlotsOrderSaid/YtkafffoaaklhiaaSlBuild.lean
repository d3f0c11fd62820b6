/-
  What the loops of SlotsGrow and SlotsShrink keep.
-/
import Derived.Test.YtkafffoaaklhiaaSlSame
import Derived.Carry
namespace Go.Proofs.Ytkafffoaaklhiaa
open Go.RowKit
set_option linter.unusedVariables false
theorem boolinfo : (Try.prog.info? 4).map (fun i => (i.zero, i.size, i.bytes)) = some (some (.bool false), 1, 1) := by kernel_rfl
theorem make_bools (n : Nat) (hn : n ≤ 16) (W : World) : ∃ W' bs, (Instr.makeSlice 32 (.int .i64 (n : Int)) (.int .i64 (n : Int))).run Try.prog W = .ok (.slice (some ⟨W.heap.size, 0, none⟩) n n) W' ∧
    W'.ownsRow 0 4 1 (.slice (some ⟨W.heap.size, 0, none⟩) n n) n (List.map Value.bool bs) ∧ Below W.heap.size W W' := by
  obtain ⟨i, hi, hz, hs, hb⟩ := info_parts boolinfo
  have hr := run_make (P := Try.prog) W 32 4 i _ Try.underlying32 hi hz .i64 .i64 (n : Int) (n : Int) (by omega) (by omega) (by rw [hb]; omega) (by omega)
  rw [Int.toNat_natCast, hs] at hr
  refine ⟨_, List.replicate n false, hr, ⟨by simp, .inr ⟨W.heap.size, n, madeCells #[.bool false] (n * 1), rfl, Nat.zero_le _, ?_, Nat.le_refl _, by unfold maxLen; omega, size_madeCells _ _, ?_⟩⟩, (Below.refl _ _).alloc (Nat.le_refl _) _⟩
  · show (W.heap.push _)[W.heap.size]? = _
    simp
    rfl
  · rw [List.take_of_length_le (by rw [Array.length_toList, size_madeCells]; exact Nat.le_refl _), Nat.mul_one]
    unfold madeCells
    refine List.ext_getElem? fun j => ?_
    simp only [List.map_replicate]
    by_cases hj : j < n
    · simp [hj, Nat.mod_one]
    · simp [hj]
/-- what the loop keeps -/
structure GrW (w wr : World) (L : Lay) (g sb : Nat) (v : Value) (m : Nat) (Lv : List Reg) (bs : List Bool) : Prop where
  box : wr.heap[w.heap.size]? = some (.cells #[.int .i64 L.id, .int .i64 L.ver, .int .i64 L.rs, .int .i64 (g : Int)] 23 (0, 0))
  live : wr.ownsRow (w.heap.size + 1) 36 10 v m (regC Lv)
  len : Lv.length = m
  seen : wr.ownsRow 0 4 1 (.slice (some ⟨sb, 0, none⟩) g g) g (bs.map Value.bool)
  ne : v.ownBlock ≠ some sb
  sbn : w.heap.size < sb
  bel : Below w.heap.size w wr
  all : AllOf L Lv
  room : (m : Int) ≤ L.rg - 1
theorem GrW.below {w wr w' : World} {L : Lay} {g sb m : Nat} {v : Value} {Lv : List Reg} {bs : List Bool} (h : GrW w wr L g sb v m Lv bs) (hb : Below wr.heap.size wr w') : GrW w w' L g sb v m Lv bs :=
  ⟨(hb.block _ (blk_lt h.box)).trans h.box, own_below h.live hb, h.len, own_below h.seen hb, h.ne, h.sbn, bel_trans h.bel hb, h.all, h.room⟩
theorem GrW.store {w wr : World} {L : Lay} {g sb m : Nat} {v : Value} {Lv : List Reg} {bs : List Bool} (h : GrW w wr L g sb v m Lv bs) (k : Nat) : GrW w (wr.setCell ⟨sb, k, none⟩ (.bool true)) L g sb v m Lv (bs.set k true) := by
  have hf : Fr (fun j => j = sb) wr (wr.setCell ⟨sb, k, none⟩ (.bool true)) := ⟨rfl, rfl, rfl, by simp [World.setCell], fun k _ hne => Below.heap_setCell _ _ _ _ hne⟩
  obtain ⟨s1, g1⟩ := h.seen.stored k (.bool true)
  refine ⟨(hf.block _ (blk_lt h.box) (by have := h.sbn; omega)).trans h.box, own_fr h.live hf (fun g hg e => by subst e; exact h.ne hg), h.len, ?_, h.ne, h.sbn, Fr.below h.bel hf h.bel.size (fun j hj => by have := h.sbn; omega), h.all, h.room⟩
  rw [List.map_set]; exact s1
theorem GrW.app {w wr w' : World} {L : Lay} {g sb m : Nat} {v v' : Value} {Lv : List Reg} {bs : List Bool} {r : Reg} (h : GrW w wr L g sb v m Lv bs) (hown : w'.ownsRow (w.heap.size + 1) 36 10 v' (m + 1) (regC (Lv ++ [r]))) (hg : wr.grownBy w' v.ownBlock)
    (hv : v'.ownBlock = v.ownBlock ∨ ∀ j, v'.ownBlock = some j → wr.heap.size ≤ j) (h1 : r.l = L) (h2 : 0 ≤ r.slot) (h3 : r.slot < L.rg) (hm : (m : Int) < L.rg - 1) : GrW w w' L g sb v' (m + 1) (Lv ++ [r]) bs := by
  have hf : Fr (fun j => v.ownBlock = some j) wr w' := .of_grown hg (fun k e => e)
  have hbs := (h.seen.lt sb rfl).2
  refine ⟨(hf.block _ (blk_lt h.box) (fun e => by have := (h.live.lt _ e).1; omega)).trans h.box, hown, by rw [List.length_append, h.len]; rfl, own_fr h.seen hf (fun j hj e => h.ne (by rw [e, ← hj]; rfl)), ?_, h.sbn, Fr.below h.bel hf h.bel.size (fun j hj => by have := (h.live.lt _ hj).1; omega), allOf_app h.all h1 h2 h3, by omega⟩
  rcases hv with e | e
  · rw [e]; exact h.ne
  · intro e2; have := e sb e2; omega
theorem grow_base {w wr : World} {L : Lay} {g sb m : Nat} {v : Value} {Lv : List Reg} {bs : List Bool} (h : GrW w wr L g sb v m Lv bs) (o : Obj) : w.heap.size + 1 ≤ (wr.alloc o).heap.size := by
  have := (h.seen.lt sb rfl).2
  have := h.sbn
  simp
  omega
theorem grow_app {w wr w' : World} {id ver rs gI slot seq : Int} {g sb m g' cap' : Nat} {v : Value} {Lv : List Reg} {bs : List Bool} {o : Obj} (h : GrW w wr ⟨id, ver, rs, gI⟩ g sb v m Lv bs) (hown : w'.ownsRow (w.heap.size + 1) 36 10 (.slice (some ⟨g', 0, none⟩) (m + 1) cap') (m + 1) (regC (Lv ++ [⟨0, slot, 0, seq, 0, 0, ⟨id, ver, rs, gI⟩⟩])))
    (hg : (wr.alloc o).grownBy w' v.ownBlock) (hat : v.ownBlock = some g' ∨ g' = wr.heap.size + 1) (h2 : 0 ≤ slot) (h3 : slot < gI) (hm : (m : Int) < gI - 1) : GrW w w' ⟨id, ver, rs, gI⟩ g sb (.slice (some ⟨g', 0, none⟩) (m + 1) cap') (m + 1) (Lv ++ [⟨0, slot, 0, seq, 0, 0, ⟨id, ver, rs, gI⟩⟩]) bs := by
  refine (h.below ((Below.refl _ _).alloc (Nat.le_refl _) o)).app hown hg ?_ rfl h2 h3 hm
  rcases hat with e | e
  · exact .inl (by rw [e]; rfl)
  · refine .inr (fun j hj => ?_)
    simp [Value.ownBlock] at hj
    simp; omega
end Go.Proofs.Ytkafffoaaklhiaa
