/-
  What the laws on the chain share: Awake; the operations that came in.
-/
import Derived.Test.YtdjjmglocdhnhaaChWalk
import Derived.Test.YtdjjmglocdhnhaaChDrop
import Derived.Test.YtdjjmglocdhnhaaChSeqs
import Derived.Test.YtdjjmglocdhnhaaRead
namespace Go.Proofs.Ytdjjmglocdhnhaa
open Go.RowKit Go.Maps Go.ChangeShapes Go.WideShapes
set_option linter.unusedVariables false
structure Op17 where
  kd : Int
  seq : Int
  off : Int
  key : ByteArray
def Op17.cells (o : Op17) : List Value := [.int .i64 o.kd, .int .i64 o.seq, .int .i64 o.off, .string o.key]
def Op17.wf (o : Op17) : Prop := (Lit.int .i64 o.seq).wf = true ∧ (Lit.int .i64 o.off).wf = true ∧ o.key.size ≤ maxLen
theorem Reads.op17 {w : World} {cs : List Value} (h : Reads Try.prog w 27 cs) : ∃ o : Op17, cs = o.cells ∧ o.wf := by
  obtain ⟨hl, hf⟩ := h.struct Try.underlying27
  rw [show Try.prog.cellsOf 27 = 4 from by kernel_rfl] at hl
  match cs, hl with
  | [c0, c1, c2, c3], _ =>
    simp only [List.mem_cons, List.not_mem_nil, or_false, forall_eq_or_imp, forall_eq, show Try.prog.cellsOf 3 = 1 from by kernel_rfl, show Try.prog.cellsOf 9 = 1 from by kernel_rfl] at hf
    obtain ⟨f0, f1, f2, f3⟩ := hf
    obtain ⟨k, e0, hk⟩ := f0.int Try.underlying3
    obtain ⟨s, e1, hs⟩ := f1.int Try.underlying3
    obtain ⟨o, e2, ho⟩ := f2.int Try.underlying3
    obtain ⟨ky, e3, hky⟩ := f3.string Try.underlying9
    simp at e0 e1 e2 e3
    subst e0 e1 e2 e3
    exact ⟨⟨k, s, o, ky⟩, rfl, hs, ho, hky⟩
/-- the operations lie in memory -/
def Ops (w : World) (a : Option Addr) (len : Nat) (f : Nat → Op17) : Prop := RowsAt w 4 a len (fun i => (f i).cells)
theorem Ops.below {w0 w : World} {a : Option Addr} {len : Nat} {f : Nat → Op17} (h : Ops w0 a len f) (hb : Below w0.heap.size w0 w) : Ops w a len f := RowsAt.below h hb (Nat.le_refl _)
theorem Ops.at {w : World} {a : Option Addr} {len : Nat} {f : Nat → Op17} (h : Ops w a len f) (i : Nat) (hi : i < len) : ∃ b off, a = some ⟨b, off, none⟩ ∧ b < w.heap.size ∧
    w.cell? ⟨b, off + i * 4, none⟩ = some (.int .i64 (f i).kd) ∧ w.cell? ⟨b, off + i * 4 + 1, none⟩ = some (.int .i64 (f i).seq) ∧ w.cell? ⟨b, off + i * 4 + 2, none⟩ = some (.int .i64 (f i).off) ∧ w.cell? ⟨b, off + i * 4 + 3, none⟩ = some (.string (f i).key) := by
  obtain ⟨b, off, ha, hlt, hc⟩ := h i hi
  exact ⟨b, off, ha, hlt, hc 0 (by omega), hc 1 (by omega), hc 2 (by omega), hc 3 (by omega)⟩
theorem arg_ops {w : World} {base : Nat} {v : Value} (o : Value.okWide Try.prog w .any base 22 v) (r : Reads Try.prog w 22 v.cells.toList) :
    ∃ a len cap f, v = .slice a len cap ∧ len ≤ 9223372036854775807 ∧ Ops w a len f ∧ ∀ i, i < len → (f i).wf := by
  obtain ⟨a, len, cap, g, rfl, h1, h2, h3, h4, h5⟩ := arg_rows Try.underlying22 (show Try.prog.cellsOf 27 = 4 from by kernel_rfl) (by omega) o r
  have key : ∀ i, ∃ o : Op17, i < len → g i = o.cells ∧ o.wf := by
    intro i
    by_cases hi : i < len
    · obtain ⟨o, ho⟩ := (h5 i hi).2.op17
      exact ⟨o, fun _ => ho⟩
    · exact ⟨⟨0, 0, 0, ByteArray.empty⟩, fun h => (hi h).elim⟩
  obtain ⟨f, hf⟩ := Classical.axiomOfChoice key
  refine ⟨a, len, cap, f, rfl, by omega, fun i hi => ?_, fun i hi => (hf i hi).2⟩
  obtain ⟨b, off, ha, hlt, hc⟩ := h4 i hi
  exact ⟨b, off, ha, hlt, fun j hj => by rw [hc j hj, (hf i hi).1]⟩
/-- the first ten bytes of a key -/
def cutK (k : ByteArray) : ByteArray := if 10 < (k.size : Int) then k.extract 0 10 else k
theorem cut_cases (k : ByteArray) : (10 < (k.size : Int) ∧ cutK k = k.extract 0 10) ∨ ((k.size : Int) ≤ 10 ∧ cutK k = k) := by
  unfold cutK
  split
  · exact .inl ⟨by assumption, rfl⟩
  · exact .inr ⟨by omega, rfl⟩
theorem cutK_size (k : ByteArray) : (cutK k).size ≤ 10 := by
  rcases cut_cases k with ⟨_, h⟩ | ⟨_, h⟩
  · rw [h, ByteArray.size_extract]; omega
  · rw [h]; omega
/-- the chain, newer than w0 -/
def ChO (w0 w : World) (cb N : Nat) (L : List It) : Prop := ∃ R, Ch w cb N L R ∧ (∀ j, R j → w0.heap.size ≤ j) ∧ Below w0.heap.size w0 w
theorem ChO.below {w0 w w' : World} {cb N : Nat} {L : List It} (h : ChO w0 w cb N L) (hb : Below w.heap.size w w') : ChO w0 w' cb N L := by
  obtain ⟨R, h1, h2, h3⟩ := h
  exact ⟨R, h1.below hb, h2, bel_trans h3 hb⟩
theorem ChO.bel {w0 w : World} {cb N : Nat} {L : List It} (h : ChO w0 w cb N L) : Below w0.heap.size w0 w := by obtain ⟨R, h1, h2, h3⟩ := h; exact h3
theorem ChO.step {w0 w w' : World} {cb N' : Nat} {L' : List It} {R : Nat → Prop} (hn : ∀ j, R j → w0.heap.size ≤ j) (hb : Below w0.heap.size w0 w) (st : ChStep w w' cb N' L' R) : ChO w0 w' cb N' L' := by
  obtain ⟨R', h1, h2, h3⟩ := st
  refine ⟨R', h1, fun j hj => (h3 j hj).elim (hn j) (fun e => Nat.le_trans hb.size e), Fr.below hb h2 hb.size hn⟩
theorem cho_new (w : World) : Calls Try.prog 6 #[] w fun e w' => ∃ cb, e = .returned (.pointer (some ⟨cb, 0, none⟩)) ∧ ChO w w' cb 0 [] :=
  (new6 w).mono fun e w' ⟨cb, R, h1, h2, h3, h4⟩ => ⟨cb, h1, R, h2, h4, h3⟩
theorem cho_add (cb N : Nat) (L : List It) (s o : Int) (k : ByteArray) (w0 w : World) (hs : (Lit.int .i64 s).wf = true) (ho : (Lit.int .i64 o).wf = true) (hk : k.size ≤ maxLen) (hN : N ≤ 100000) (hA : AscI L) (h : ChO w0 w cb N L) :
    Calls Try.prog 7 #[.pointer (some ⟨cb, 0, none⟩), .int .i64 s, .int .i64 o, .string k] w fun e w' => e = .returned (.tuple #[]) ∧ ChO w0 w' cb (N + 1) (adI L s o k) := by
  obtain ⟨R, h1, h2, h3⟩ := h
  refine (add7 cb N R L s o k w hs ho hk hN hA h1).mono ?_
  rintro e w' ⟨rfl, st⟩
  exact ⟨rfl, ChO.step h2 h3 st⟩
theorem cho_items (cb N : Nat) (L : List It) (s : Int) (w0 w : World) (hs : (Lit.int .i64 s).wf = true) (hL : L.length ≤ 100000) (hA : AscI L) (h : ChO w0 w cb N L) :
    Calls Try.prog 8 #[.pointer (some ⟨cb, 0, none⟩), .int .i64 s] w (ItemsE w L s) := by
  obtain ⟨R, h1, h2, h3⟩ := h
  exact items8 cb N R L s w hs hL hA h1
theorem cho_seqs (cb N : Nat) (L : List It) (w0 w : World) (hN : N ≤ 100000) (hA : AscI L) (h : ChO w0 w cb N L) :
    Calls Try.prog 17 #[.pointer (some ⟨cb, 0, none⟩)] w (SeqsE w L) := by
  obtain ⟨R, h1, h2, h3⟩ := h
  exact seqs17 cb N R L w hN hA h1
theorem cho_drop (cb N : Nat) (L : List It) (s : Int) (w0 w : World) (hs : (Lit.int .i64 s).wf = true) (hL : L.length ≤ 100000) (hA : AscI L) (h : ChO w0 w cb N L) :
    Calls Try.prog 9 #[.pointer (some ⟨cb, 0, none⟩), .int .i64 s] w fun e w' => ∃ v, e = .returned v ∧ ChO w0 w' cb N (dropI L s) := by
  obtain ⟨R, h1, h2, h3⟩ := h
  refine (drop9 cb N R L s w hs hL hA h1).mono ?_
  rintro e w' ⟨v, rfl, -, st⟩
  exact ⟨v, rfl, ChO.step h2 h3 st⟩
/-- a row of items, as a slice -/
theorem row_it2 {w : World} {base : Nat} {v : Value} {l : List It} {n : Nat} (hn : l.length = n) (h : w.ownsRow base 32 2 v l.length (l.flatMap itC2)) : ∃ a c, v = .slice a n c ∧ Vals w a (l.flatMap itC2) ∧ ∀ b off, a = some ⟨b, off, none⟩ → base ≤ b := by
  subst hn
  obtain ⟨a, c, h1, h2, h3, h4, h5, h6, h7⟩ := ownsRow_vals h
  exact ⟨a, c, h1, h2, fun b off e => (h7 b off e).1⟩
theorem row_ints {w : World} {base : Nat} {v : Value} {l : List Int} {n : Nat} (hn : l.length = n) (h : w.ownsRow base 3 1 v l.length (l.map (Value.int .i64))) : ∃ a c, v = .slice a n c ∧ Vals w a (l.map (Value.int .i64)) := by
  subst hn
  obtain ⟨a, c, h1, h2, _⟩ := ownsRow_vals h
  exact ⟨a, c, h1, h2⟩
abbrev kA : ByteArray := ⟨#[97]⟩
abbrev kB : ByteArray := ⟨#[98]⟩
theorem awL : adI (adI [] 5 17 kA) 5 0 kB = [⟨5, 0, kB⟩, ⟨5, 17, kA⟩] := by kernel_rfl
theorem awI : itsI [⟨5, 0, kB⟩, ⟨5, 17, kA⟩] 5 = [⟨5, 0, kB⟩, ⟨5, 17, kA⟩] := by kernel_rfl
theorem awS : seqI [⟨5, 0, kB⟩, ⟨5, 17, kA⟩] = [5] := by kernel_rfl
theorem awA : AscI [⟨5, 0, kB⟩, ⟨5, 17, kA⟩] := by rw [← awL]; exact (AscI.nil.ad 5 17 kA).ad 5 0 kB
set_option maxRecDepth 100000 in
set_option maxHeartbeats 2000000 in
theorem awake10 (w : World) : Calls Try.prog 10 #[] w fun e w' => e = .returned (.bool true) ∧ Below w.heap.size w w' := by
  go_enter Try.func10, Try.ntmps10
  go_wp2_with fail
  with_reducible refine (cho_new _).mono ?_
  rintro e w1 ⟨cb, rfl, c1⟩
  have C1 := Lib.hid c1
  clear c1
  go_wp2_with fail
  with_reducible refine (cho_add cb 0 [] 5 17 kA w _ (by decide) (by decide) (by decide) (by omega) AscI.nil C1.out).mono ?_
  rintro e w2 ⟨rfl, c2⟩
  have C2 := Lib.hid c2
  clear c2 C1
  go_wp2_with fail
  with_reducible refine (cho_add cb 1 (adI [] 5 17 kA) 5 0 kB w _ (by decide) (by decide) (by decide) (by omega) (AscI.nil.ad 5 17 kA) C2.out).mono ?_
  rintro e w3 ⟨rfl, c3⟩
  rw [awL] at c3
  have C3 := Lib.hid c3
  clear c3 C2
  go_wp2_with fail
  with_reducible refine (cho_items cb 2 [⟨5, 0, kB⟩, ⟨5, 17, kA⟩] 5 w _ (by decide) (by simp) awA C3.out).mono ?_
  rintro e w4 ⟨v, rfl, ho, hb4⟩
  rw [awI] at ho
  obtain ⟨a, c, rfl, hv, -⟩ := row_it2 (n := 2) rfl ho
  obtain ⟨g, off, rfl, hg, q0, q1⟩ := hv.it2 0 _ rfl
  obtain ⟨g', off', e', hg', r0, r1⟩ := hv.it2 1 _ rfl
  cases e'
  simp only [Nat.zero_mul, Nat.add_zero, Nat.one_mul] at q0 q1 r0 r1
  have C4 := Lib.hid (C3.out.below hb4)
  clear ho hv hb4 C3 hg hg'
  have C4B := Lib.hid C4.out.bel
  go_wp2_with fail
  with_reducible refine (cho_seqs cb 2 [⟨5, 0, kB⟩, ⟨5, 17, kA⟩] w _ (by omega) awA C4.out).mono ?_
  rintro e w5 ⟨v5, rfl, ho5, hb5⟩
  rw [awS] at ho5
  obtain ⟨a5, c5, rfl, -⟩ := row_ints (n := 1) rfl ho5
  have B5 := Lib.hid (bel_trans C4B.out hb5)
  clear ho5 hb5
  go_wp2_with fail
  go_ret
  exact ⟨rfl, B5.out⟩
end Go.Proofs.Ytdjjmglocdhnhaa
