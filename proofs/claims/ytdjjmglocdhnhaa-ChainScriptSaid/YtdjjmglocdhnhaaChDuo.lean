/-
  The chain and the reference's chain, side by side.
-/
import Derived.Test.YtdjjmglocdhnhaaChLaw
import Derived.Test.YtdjjmglocdhnhaaRefChAdd
import Derived.Test.YtdjjmglocdhnhaaRefChI
namespace Go.Proofs.Ytdjjmglocdhnhaa
open Go.RowKit
set_option linter.unusedVariables false
structure DuC (w0 w : World) (cb N : Nat) (Lc : List It) (bm : Nat) (Lr : List It) (K R Rr : Nat → Prop) : Prop where
  ch : Ch w cb N Lc R
  rc : RC w bm Lr Rr
  newC : ∀ j, R j → w0.heap.size ≤ j
  newR : ∀ j, Rr j → w0.heap.size ≤ j
  dis : ∀ j, R j → ¬ Rr j
  bel : Below w0.heap.size w0 w
  keep : ∀ j, K j → j < w.heap.size ∧ ¬ R j ∧ ¬ Rr j
/-- both chains, newer than w0; the blocks of K are none of theirs -/
def Dub (w0 w : World) (cb N : Nat) (Lc : List It) (bm : Nat) (Lr : List It) (K : Nat → Prop) : Prop := ∃ R Rr, DuC w0 w cb N Lc bm Lr K R Rr
theorem Dub.bel {w0 w : World} {cb N bm : Nat} {Lc Lr : List It} {K : Nat → Prop} (h : Dub w0 w cb N Lc bm Lr K) : Below w0.heap.size w0 w := by obtain ⟨R, Rr, d⟩ := h; exact d.bel
theorem Dub.below {w0 w w' : World} {cb N bm : Nat} {Lc Lr : List It} {K : Nat → Prop} (h : Dub w0 w cb N Lc bm Lr K) (hb : Below w.heap.size w w') : Dub w0 w' cb N Lc bm Lr K := by
  obtain ⟨R, Rr, d⟩ := h
  exact ⟨R, Rr, d.ch.below hb, RL.frame (T := fun _ => False) d.rc (.of_below hb) (fun _ _ f => f), d.newC, d.newR, d.dis, bel_trans d.bel hb, fun j hj => ⟨Nat.lt_of_lt_of_le (d.keep j hj).1 hb.size, (d.keep j hj).2⟩⟩
/-- what was made behind w is none of theirs either -/
theorem Dub.grow {w0 w w' : World} {cb N bm : Nat} {Lc Lr : List It} {K K' : Nat → Prop} (h : Dub w0 w cb N Lc bm Lr K) (hb : Below w.heap.size w w') (hK : ∀ j, K' j → K j ∨ (w.heap.size ≤ j ∧ j < w'.heap.size)) : Dub w0 w' cb N Lc bm Lr K' := by
  obtain ⟨R, Rr, d⟩ := h
  refine ⟨R, Rr, d.ch.below hb, RL.frame (T := fun _ => False) d.rc (.of_below hb) (fun _ _ f => f), d.newC, d.newR, d.dis, bel_trans d.bel hb, fun j hj => ?_⟩
  rcases hK j hj with k | ⟨k1, k2⟩
  · exact ⟨Nat.lt_of_lt_of_le (d.keep j k).1 hb.size, (d.keep j k).2⟩
  · exact ⟨k2, fun e => by have := d.ch.lt j e; omega, fun e => by have := RL.lt d.rc j e; omega⟩
theorem Dub.mono {w0 w : World} {cb N bm : Nat} {Lc Lr : List It} {K K' : Nat → Prop} (h : Dub w0 w cb N Lc bm Lr K) (hK : ∀ j, K' j → K j) : Dub w0 w cb N Lc bm Lr K' := by
  obtain ⟨R, Rr, d⟩ := h
  exact ⟨R, Rr, d.ch, d.rc, d.newC, d.newR, d.dis, d.bel, fun j hj => d.keep j (hK j hj)⟩
theorem Dub.ltN {w0 w : World} {cb N N' bm : Nat} {Lc Lr : List It} {K : Nat → Prop} (h : Dub w0 w cb N Lc bm Lr K) (hN : N ≤ N') : Dub w0 w cb N' Lc bm Lr K := by
  obtain ⟨R, Rr, d⟩ := h
  exact ⟨R, Rr, d.ch.mono hN, d.rc, d.newC, d.newR, d.dis, d.bel, d.keep⟩
/-- what a call leaves as it is -/
def KeptF (K : Nat → Prop) (w w' : World) : Prop := ∃ T, Fr T w w' ∧ ∀ j, K j → ¬ T j
theorem KeptF.block {K : Nat → Prop} {w w' : World} (h : KeptF K w w') {b : Nat} {o : Obj} (hb : w.heap[b]? = some o) (hK : K b) : w'.heap[b]? = some o := by
  obtain ⟨T, hf, hT⟩ := h
  exact (hf.block b (blk_lt hb) (hT b hK)).trans hb
theorem KeptF.vals {K : Nat → Prop} {w w' : World} (h : KeptF K w w') {a : Option Addr} {vs : List Value} (hv : Vals w a vs) (hK : ∀ b off, a = some ⟨b, off, none⟩ → K b) : Vals w' a vs := by
  obtain ⟨T, hf, hT⟩ := h
  exact hv.fr hf (fun b off e => hT b (hK b off e))
theorem DuC.stepC {w0 w w' : World} {cb N N' bm : Nat} {Lc Lr L' : List It} {K R Rr : Nat → Prop} (d : DuC w0 w cb N Lc bm Lr K R Rr) (st : ChStep w w' cb N' L' R) : Dub w0 w' cb N' L' bm Lr K ∧ KeptF K w w' := by
  obtain ⟨R', h1, h2, h3⟩ := st
  have hs := d.bel.size
  refine ⟨⟨R', Rr, h1, RL.frame d.rc h2 (fun j hj e => d.dis j e hj), fun j hj => (h3 j hj).elim (d.newC j) (fun e => by omega), d.newR, fun j hj e => ?_, Fr.below d.bel h2 hs d.newC, fun j hj => ⟨Nat.lt_of_lt_of_le (d.keep j hj).1 h2.size, fun e => ?_, (d.keep j hj).2.2⟩⟩, R, h2, fun j hj => (d.keep j hj).2.1⟩
  · rcases h3 j hj with k | k
    · exact d.dis j k e
    · have := RL.lt d.rc j e; omega
  · rcases h3 j e with k | k
    · exact (d.keep j hj).2.1 k
    · have := (d.keep j hj).1; omega
theorem DuC.stepR {w0 w w' : World} {cb N bm : Nat} {Lc Lr L' : List It} {K R Rr : Nat → Prop} (d : DuC w0 w cb N Lc bm Lr K R Rr) (st : RStep w w' bm L' Rr) : Dub w0 w' cb N Lc bm L' K ∧ KeptF K w w' := by
  obtain ⟨R', h1, h2, h3⟩ := st
  have hs := d.bel.size
  refine ⟨⟨R, R', d.ch.frame h2 d.dis, h1, d.newC, fun j hj => (h3 j hj).elim (d.newR j) (fun e => by omega), fun j hj e => ?_, Fr.below d.bel h2 hs d.newR, fun j hj => ⟨Nat.lt_of_lt_of_le (d.keep j hj).1 h2.size, (d.keep j hj).2.1, fun e => ?_⟩⟩, Rr, h2, fun j hj => (d.keep j hj).2.2⟩
  · rcases h3 j e with k | k
    · exact d.dis j hj k
    · have := d.ch.lt j hj; omega
  · rcases h3 j e with k | k
    · exact (d.keep j hj).2.2 k
    · have := (d.keep j hj).1; omega
theorem dub_new {w0 w1 : World} {cb : Nat} (h : ChO w0 w1 cb 0 []) : Dub w0 (w1.alloc (.cells #[.slice none 0 0] 38)) cb 0 [] w1.heap.size [] (fun _ => False) := by
  obtain ⟨R, h1, h2, h3⟩ := h
  have hx : (w1.alloc (.cells #[.slice none 0 0] 38)).heap[w1.heap.size]? = some (.cells #[.slice none 0 0] 38 (0, 0)) := by
    show (w1.heap.push _)[w1.heap.size]? = _
    simp
  have hbx : Below w1.heap.size w1 (w1.alloc (.cells #[.slice none 0 0] 38)) := (Below.refl _ _).alloc (Nat.le_refl _) _
  have hs := h3.size
  refine ⟨R, _, h1.below hbx, ⟨none, 0, ⟨hx, fun i hi => by simp at hi, rfl, Nat.le_refl _, by unfold maxLen; omega, fun _ => ⟨rfl, rfl⟩, fun x hx => by cases hx⟩, rfl⟩, h2, fun j hj => ?_, fun j hj hR => ?_, bel_trans h3 hbx, fun j hj => hj.elim⟩
  · rcases hj with rfl | ⟨off, e⟩
    · exact hs
    · cases e
  · have := h1.lt j hj
    rcases hR with rfl | ⟨off, e⟩
    · omega
    · cases e
section calls
variable {w0 : World} {cb N bm : Nat} {Lc Lr : List It} {K : Nat → Prop}
theorem dub_add (s o : Int) (k : ByteArray) (w : World) (hs : (Lit.int .i64 s).wf = true) (ho : (Lit.int .i64 o).wf = true) (hk : k.size ≤ maxLen) (hN : N ≤ 100000) (hA : AscI Lc) (h : Dub w0 w cb N Lc bm Lr K) :
    Calls Try.prog 7 #[.pointer (some ⟨cb, 0, none⟩), .int .i64 s, .int .i64 o, .string k] w fun e w' => e = .returned (.tuple #[]) ∧ Dub w0 w' cb (N + 1) (adI Lc s o k) bm Lr K ∧ KeptF K w w' := by
  obtain ⟨R, Rr, d⟩ := h
  refine (add7 cb N R Lc s o k w hs ho hk hN hA d.ch).mono ?_
  rintro e w' ⟨rfl, st⟩
  exact ⟨rfl, d.stepC st⟩
theorem dub_rm (s o : Int) (w : World) (hs : (Lit.int .i64 s).wf = true) (ho : (Lit.int .i64 o).wf = true) (hN : N ≤ 100000) (hA : AscI Lc) (b : Bool) (hb : decide (HasO Lc s o) = b) (h : Dub w0 w cb N Lc bm Lr K) :
    Calls Try.prog 12 #[.pointer (some ⟨cb, 0, none⟩), .int .i64 s, .int .i64 o] w fun e w' => e = .returned (.bool b) ∧ Dub w0 w' cb N (rmI Lc s o) bm Lr K ∧ KeptF K w w' := by
  obtain ⟨R, Rr, d⟩ := h
  subst hb
  refine (remove12 cb N R Lc s o w hs ho hN hA d.ch).mono ?_
  rintro e w' ⟨rfl, st⟩
  exact ⟨rfl, d.stepC st⟩
theorem dub_drop (s : Int) (w : World) (hs : (Lit.int .i64 s).wf = true) (hL : Lc.length ≤ 100000) (hA : AscI Lc) (n : Nat) (hn : (itsI Lc s).length = n) (h : Dub w0 w cb N Lc bm Lr K) :
    Calls Try.prog 9 #[.pointer (some ⟨cb, 0, none⟩), .int .i64 s] w fun e w' => ∃ a c, e = .returned (.slice a n c) ∧ Vals w' a ((itsI Lc s).flatMap itC2) ∧ Dub w0 w' cb N (dropI Lc s) bm Lr K ∧ KeptF K w w' := by
  obtain ⟨R, Rr, d⟩ := h
  subst hn
  refine (drop9 cb N R Lc s w hs hL hA d.ch).mono ?_
  rintro e w' ⟨v, rfl, ho, st⟩
  obtain ⟨a, c, rfl, hv, -⟩ := ownsRow_vals ho
  exact ⟨a, c, rfl, hv, d.stepC st⟩
theorem dub_items (s : Int) (w : World) (hs : (Lit.int .i64 s).wf = true) (hL : Lc.length ≤ 100000) (hA : AscI Lc) (n : Nat) (hn : (itsI Lc s).length = n) (h : Dub w0 w cb N Lc bm Lr K) :
    Calls Try.prog 8 #[.pointer (some ⟨cb, 0, none⟩), .int .i64 s] w fun e w' => ∃ a c, e = .returned (.slice a n c) ∧ Vals w' a ((itsI Lc s).flatMap itC2) ∧ Below w.heap.size w w' := by
  obtain ⟨R, Rr, d⟩ := h
  subst hn
  refine (items8 cb N R Lc s w hs hL hA d.ch).mono ?_
  rintro e w' ⟨v, rfl, ho, hb⟩
  obtain ⟨a, c, rfl, hv, -⟩ := ownsRow_vals ho
  exact ⟨a, c, rfl, hv, hb⟩
theorem dub_seqs (w : World) (hN : N ≤ 100000) (hA : AscI Lc) (n : Nat) (hn : (seqI Lc).length = n) (h : Dub w0 w cb N Lc bm Lr K) :
    Calls Try.prog 17 #[.pointer (some ⟨cb, 0, none⟩)] w fun e w' => ∃ a c, e = .returned (.slice a n c) ∧ Vals w' a ((seqI Lc).map (Value.int .i64)) ∧ Below w.heap.size w w' := by
  obtain ⟨R, Rr, d⟩ := h
  subst hn
  refine (seqs17 cb N R Lc w hN hA d.ch).mono ?_
  rintro e w' ⟨v, rfl, ho, hb⟩
  have ho' := ho
  rw [← List.length_map (f := Value.int .i64)] at ho'
  obtain ⟨a, c, rfl, hv⟩ := row_ints rfl ho
  exact ⟨a, c, rfl, hv, hb⟩
theorem dub_radd (s o : Int) (k : ByteArray) (w : World) (hL : Lr.length ≤ 1000) (hA : AscI Lr) (h : Dub w0 w cb N Lc bm Lr K) :
    Calls Try.prog 11 #[.pointer (some ⟨bm, 0, none⟩), .int .i64 s, .int .i64 o, .string k] w fun e w' => e = .returned (.tuple #[]) ∧ Dub w0 w' cb N Lc bm (adI Lr s o k) K ∧ KeptF K w w' := by
  obtain ⟨R, Rr, d⟩ := h
  refine (radd11 bm Rr Lr s o k w hL hA d.rc).mono ?_
  rintro e w' ⟨rfl, st⟩
  exact ⟨rfl, d.stepR st⟩
theorem dub_rrm (s o : Int) (w : World) (hL : Lr.length ≤ 1000) (hA : AscI Lr) (b : Bool) (hb : decide (HasO Lr s o) = b) (h : Dub w0 w cb N Lc bm Lr K) :
    Calls Try.prog 13 #[.pointer (some ⟨bm, 0, none⟩), .int .i64 s, .int .i64 o] w fun e w' => e = .returned (.bool b) ∧ Dub w0 w' cb N Lc bm (rmI Lr s o) K ∧ KeptF K w w' := by
  obtain ⟨R, Rr, d⟩ := h
  subst hb
  refine (rremove13 bm Rr Lr s o w hL hA d.rc).mono ?_
  rintro e w' ⟨rfl, st⟩
  exact ⟨rfl, d.stepR st⟩
theorem dub_ritems (s : Int) (w : World) (hL : Lr.length ≤ 1000) (n : Nat) (hn : (itsI Lr s).length = n) (h : Dub w0 w cb N Lc bm Lr K) :
    Calls Try.prog 15 #[.pointer (some ⟨bm, 0, none⟩), .int .i64 s] w fun e w' => ∃ a c, e = .returned (.slice a n c) ∧ Vals w' a ((itsI Lr s).flatMap itC3) ∧ (∀ b off, a = some ⟨b, off, none⟩ → w.heap.size ≤ b ∧ b < w'.heap.size) ∧ Below w.heap.size w w' := by
  obtain ⟨R, Rr, d⟩ := h
  subst hn
  refine (ritems15 bm Rr Lr s w hL d.rc).mono ?_
  rintro e w' ⟨v, rfl, ho, hb⟩
  obtain ⟨a, c, rfl, hv, _, _, _, _, h7⟩ := ownsRow_vals ho
  exact ⟨a, c, rfl, hv, fun b off e => ⟨(h7 b off e).1, (h7 b off e).2.1⟩, hb⟩
theorem dub_rseqs (w : World) (hL : Lr.length ≤ 1000) (hA : AscI Lr) (n : Nat) (hn : (seqI Lr).length = n) (h : Dub w0 w cb N Lc bm Lr K) :
    Calls Try.prog 18 #[.pointer (some ⟨bm, 0, none⟩)] w fun e w' => ∃ a c, e = .returned (.slice a n c) ∧ Vals w' a ((seqI Lr).map (Value.int .i64)) ∧ Below w.heap.size w w' := by
  obtain ⟨R, Rr, d⟩ := h
  subst hn
  refine (rseqs18 bm Rr Lr w hL hA d.rc).mono ?_
  rintro e w' ⟨v, rfl, ho, hb⟩
  obtain ⟨a, c, rfl, hv⟩ := row_ints rfl ho
  exact ⟨a, c, rfl, hv, hb⟩
end calls
/-- the items that are left, when the first j of a region are gone -/
structure LeftI (L Lj : List It) (s : Int) (j : Nat) : Prop where
  asc : AscI Lj
  len : Lj.length ≤ L.length
  mem : ∀ x, x ∈ Lj ↔ x ∈ L ∧ ¬ x ∈ (itsI L s).take j
theorem LeftI.start {L : List It} (hA : AscI L) (s : Int) : LeftI L L s 0 := ⟨hA, Nat.le_refl _, fun x => by simp⟩
theorem LeftI.step {L Lj : List It} {s : Int} {j : Nat} {x : It} (hA : AscI L) (h : LeftI L Lj s j) (hx : (itsI L s)[j]? = some x) : LeftI L (rmI Lj x.seq x.off) s (j + 1) := by
  refine ⟨h.asc.rm _ _, Nat.le_trans (rmI_length_le _ _ _) h.len, fun y => ?_⟩
  have hxL : x ∈ L := (mem_itsI.1 (List.mem_of_getElem? hx)).1
  rw [mem_rmI, h.mem, take_snoc' _ j x hx, List.mem_append, List.mem_singleton]
  constructor
  · rintro ⟨⟨h1, h2⟩, h3⟩
    exact ⟨h1, fun e => e.elim h2 (fun e => h3 ⟨by rw [e], by rw [e]⟩)⟩
  · rintro ⟨h1, h2⟩
    exact ⟨⟨h1, fun e => h2 (.inl e)⟩, fun ⟨e1, e2⟩ => h2 (.inr (hA.one h1 hxL e1 e2))⟩
theorem LeftI.stop {L Lj : List It} {s : Int} (hA : AscI L) (h : LeftI L Lj s (itsI L s).length) : Lj = dropI L s := by
  refine ascI_eq h.asc (hA.drop s) (fun x => ?_)
  rw [h.mem, List.take_length, mem_itsI, mem_dropI]
  constructor
  · rintro ⟨h1, h2⟩; exact ⟨h1, fun e => h2 ⟨h1, e⟩⟩
  · rintro ⟨h1, h2⟩; exact ⟨h1, fun e => h2 e.2⟩
end Go.Proofs.Ytdjjmglocdhnhaa
