/-
  What an argument that can be read as data gives to a walk, type by type: integers, bools, strings, structs, slices of any element.
-/
import Derived.Test.YtdjjmglocdhnhaaBase
namespace Go.Proofs.Ytdjjmglocdhnhaa
open Go.RowKit Go.WideShapes Go.ChangeShapes
section
variable {P : Program} {w : World}
/-- the cells 'cs' can be read as a value of type t -/
def Reads (P : Program) (w : World) (t : TypeId) (cs : List Value) : Prop :=
  ∃ (H : Type) (enc : TypeId × Value → H) (held : Bool) (fuel : Nat) (x : DataW H × List MemPlace), DataW.trod enc P w 0 (fun _ => true) held fuel t cs = some x
theorem Reads.of {H : Type} {enc : TypeId × Value → H} {held : Bool} {t : TypeId} {v : Value} {d : DataW H} {p : List MemPlace} (h : DataW.Trod enc P w 0 (fun _ => true) held t v d p) : Reads P w t v.cells.toList := by
  obtain ⟨fuel, hf⟩ := h
  exact ⟨H, enc, held, fuel, _, hf⟩
theorem Reads.int {t : TypeId} {k : IntKind} {cs : List Value} (ht : P.underlying t = some (.int k)) (h : Reads P w t cs) : ∃ n, cs = [.int k n] ∧ (Lit.int k n).wf = true := by
  obtain ⟨H, enc, held, fuel, x, hx⟩ := h
  obtain ⟨n, h1, _, h2⟩ := DataW.trod_int ht hx
  exact ⟨n, h1, h2⟩
theorem Reads.bool {t : TypeId} {cs : List Value} (ht : P.underlying t = some .bool) (h : Reads P w t cs) : ∃ b, cs = [.bool b] := by
  obtain ⟨H, enc, held, fuel, x, hx⟩ := h
  cases fuel with
  | zero => simp [DataW.trod] at hx
  | succ n =>
    unfold DataW.trod at hx
    rw [ht] at hx
    split at hx <;> first | exact ⟨_, rfl⟩ | simp_all
theorem Reads.string {t : TypeId} {cs : List Value} (ht : P.underlying t = some .string) (h : Reads P w t cs) : ∃ s, cs = [.string s] ∧ s.size ≤ maxLen := by
  obtain ⟨H, enc, held, fuel, x, hx⟩ := h
  cases fuel with
  | zero => simp [DataW.trod] at hx
  | succ n =>
    unfold DataW.trod at hx
    rw [ht] at hx
    split at hx <;> first | (split at hx; exact ⟨_, rfl, by assumption⟩; cases hx) | simp_all
theorem mapM_some {α β : Type} {f : α → Option β} : ∀ {l : List α} {ys : List β}, l.mapM f = some ys → ∀ a ∈ l, ∃ b, f a = some b
  | [], _, _, a, ha => by cases ha
  | x :: l, ys, h, a, ha => by
    rw [List.mapM_cons] at h
    simp only [Option.bind_eq_bind, Option.bind_eq_some_iff] at h
    obtain ⟨b, hb, bs, hbs, _⟩ := h
    rcases List.mem_cons.1 ha with rfl | ha
    · exact ⟨b, hb⟩
    · exact mapM_some hbs a ha
theorem Reads.struct {t : TypeId} {fs : Array Field} {cs : List Value} (ht : P.underlying t = some (.struct fs)) (h : Reads P w t cs) :
    cs.length = P.cellsOf t ∧ ∀ f ∈ fs.toList, Reads P w f.type ((cs.drop f.offset).take (P.cellsOf f.type)) := by
  obtain ⟨H, enc, held, fuel, x, hx⟩ := h
  cases fuel with
  | zero => simp [DataW.trod] at hx
  | succ n =>
    unfold DataW.trod at hx
    rw [ht] at hx
    split at hx
    all_goals first
      | (rename_i e _; injection e with e; cases e; fail)
      | skip
    all_goals simp_all
    all_goals
      obtain ⟨h1, xs, h2, h3⟩ := hx
      exact fun f hf => by
        obtain ⟨b, hb⟩ := mapM_some h2 f (Array.mem_toList_iff.2 hf)
        exact ⟨H, enc, held, n, b, hb⟩
theorem Reads.slice {t e : TypeId} {cs : List Value} (ht : P.underlying t = some (.slice e)) (h : Reads P w t cs) :
    cs = [.slice none 0 0] ∨ ∃ a len cap, cs = [.slice (some a) len cap] ∧ len ≤ cap ∧ cap ≤ maxLen ∧
      ∀ i, i < len → ∃ es, w.cells? 0 (a.add (i * P.cellsOf e)) (P.cellsOf e) = some es ∧ Reads P w e es := by
  obtain ⟨H, enc, held, fuel, x, hx⟩ := h
  cases fuel with
  | zero => simp [DataW.trod] at hx
  | succ n =>
    unfold DataW.trod at hx
    rw [ht] at hx
    split at hx
    all_goals first
      | (rename_i e _; injection e with e; cases e; fail)
      | skip
    all_goals try (left; rfl)
    all_goals try (exfalso; simp_all; done)
    all_goals
      rename_i e' a len cap he
      injection he with he
      injection he with he
      subst he
      right
      refine ⟨a, len, cap, rfl, ?_⟩
      split at hx
      · rename_i hc
        refine ⟨hc.2.1, hc.2.2, fun i hi => ?_⟩
        obtain ⟨xs, h3, h4⟩ := Option.bind_eq_some_iff.1 hx
        obtain ⟨b, hb⟩ := mapM_some h3 i (by simpa using hi)
        obtain ⟨es, he, hr⟩ := Option.bind_eq_some_iff.1 hb
        exact ⟨es, he, H, enc, held, n, b, hr⟩
      · cases hx
/-- 'len' elements of C cells each, from the address of a slice on: element i's cells are 'f i' -/
def RowsAt (w : World) (C : Nat) (a : Option Addr) (len : Nat) (f : Nat → List Value) : Prop :=
  ∀ i, i < len → ∃ b off, a = some ⟨b, off, none⟩ ∧ b < w.heap.size ∧ ∀ j, j < C → w.cell? ⟨b, off + (i * C + j), none⟩ = (f i)[j]?
theorem RowsAt.le {C : Nat} {a : Option Addr} {len len' : Nat} {f : Nat → List Value} (h : RowsAt w C a len f) (hl : len' ≤ len) : RowsAt w C a len' f :=
  fun i hi => h i (by omega)
theorem RowsAt.below {w' : World} {B C : Nat} {a : Option Addr} {len : Nat} {f : Nat → List Value} (h : RowsAt w C a len f) (hb : Below B w w') (hB : w.heap.size ≤ B) : RowsAt w' C a len f := by
  intro i hi
  obtain ⟨b, off, ha, hlt, hc⟩ := h i hi
  refine ⟨b, off, ha, Nat.lt_of_lt_of_le hlt hb.size, fun j hj => ?_⟩
  rw [hb.cell (by show b < B; omega)]; exact hc j hj
theorem Reads.rows {t e C : Nat} {cs : List Value} (ht : P.underlying t = some (.slice e)) (hC : P.cellsOf e = C) (h0 : 0 < C) (h : Reads P w t cs) :
    ∃ a len cap f, cs = [.slice a len cap] ∧ len ≤ cap ∧ cap ≤ maxLen ∧ (a = none → len = 0 ∧ cap = 0) ∧ RowsAt w C a len f ∧ ∀ i, i < len → (f i).length = C ∧ Reads P w e (f i) := by
  rcases h.slice ht with rfl | ⟨a, len, cap, rfl, h1, h2, h3⟩
  · exact ⟨none, 0, 0, fun _ => [], rfl, Nat.le_refl _, by unfold maxLen; omega, fun _ => ⟨rfl, rfl⟩, fun i hi => by omega, fun i hi => by omega⟩
  · rw [hC] at h3
    have key : ∀ i, ∃ es, i < len → (∃ b off, some a = some ⟨b, off, none⟩ ∧ b < w.heap.size ∧ ∀ j, j < C → w.cell? ⟨b, off + (i * C + j), none⟩ = es[j]?) ∧ es.length = C ∧ Reads P w e es := by
      intro i
      by_cases hi : i < len
      · obtain ⟨b, off, spot⟩ := a
        have hspot : spot = none := by
          obtain ⟨es, he, _⟩ := h3 0 (by omega)
          obtain ⟨_, hl, hc⟩ := World.cells?_some he
          have g := hc 0 h0
          rw [List.getElem?_eq_getElem (by omega)] at g
          simpa [Addr.add] using World.cell?_spot g
        subst hspot
        obtain ⟨es, he, hr⟩ := h3 i hi
        obtain ⟨_, hl, hc⟩ := World.cells?_some he
        have hc' : ∀ j, j < C → w.cell? ⟨b, off + (i * C + j), none⟩ = es[j]? := by
          intro j hj
          have := hc j hj
          rw [add_plain, add_plain, Nat.add_assoc] at this
          exact this
        refine ⟨es, fun _ => ⟨⟨b, off, rfl, ?_, hc'⟩, hl, hr⟩⟩
        have g := hc' 0 h0
        rw [List.getElem?_eq_getElem (by omega)] at g
        exact World.block_lt_of_cell? _ _ g
      · exact ⟨[], fun h => (hi h).elim⟩
    obtain ⟨f, hf⟩ := Classical.axiomOfChoice key
    exact ⟨some a, len, cap, f, rfl, h1, h2, (fun e => by cases e), fun i hi => (hf i hi).1, fun i hi => (hf i hi).2⟩
end
set_option maxRecDepth 100000 in
/-- an integer parameter -/
theorem arg_int {w : World} {base : Nat} {t : TypeId} {k : IntKind} {v : Value} (ht : Try.prog.underlying t = some (.int k)) (o : Value.okWide Try.prog w .any base t v) (r : Reads Try.prog w t v.cells.toList) : ∃ n, v = .int k n ∧ (Lit.int k n).wf = true := by
  obtain ⟨n, rfl⟩ := okWide_int ht o
  obtain ⟨m, h1, h2⟩ := r.int ht
  simp [Value.cells] at h1
  subst h1
  exact ⟨n, rfl, h2⟩
set_option maxRecDepth 100000 in
/-- a string parameter -/
theorem arg_string {w : World} {base : Nat} {t : TypeId} {v : Value} (ht : Try.prog.underlying t = some .string) (o : Value.okWide Try.prog w .any base t v) (r : Reads Try.prog w t v.cells.toList) : ∃ s, v = .string s ∧ s.size ≤ maxLen := by
  obtain ⟨s, rfl⟩ := okWide_string ht o
  obtain ⟨s', h1, h2⟩ := r.string ht
  simp [Value.cells] at h1
  subst h1
  exact ⟨_, rfl, h2⟩
set_option maxRecDepth 100000 in
/-- a slice parameter, its elements C cells each -/
theorem arg_rows {w : World} {base : Nat} {t e C : Nat} {v : Value} (ht : Try.prog.underlying t = some (.slice e)) (hC : Try.prog.cellsOf e = C) (h0 : 0 < C) (o : Value.okWide Try.prog w .any base t v) (r : Reads Try.prog w t v.cells.toList) :
    ∃ a len cap f, v = .slice a len cap ∧ len ≤ cap ∧ cap ≤ 9223372036854775807 ∧ (a = none → len = 0 ∧ cap = 0) ∧ RowsAt w C a len f ∧ ∀ i, i < len → (f i).length = C ∧ Reads Try.prog w e (f i) := by
  obtain ⟨a', len', cap', rfl⟩ := okWide_slice ht o
  obtain ⟨a, len, cap, f, h1, h2, h3, h4⟩ := r.rows ht hC h0
  simp [Value.cells] at h1
  obtain ⟨rfl, rfl, rfl⟩ := h1
  unfold maxLen at h3
  exact ⟨_, _, _, f, rfl, h2, h3, h4⟩
set_option maxRecDepth 100000 in
/-- a slice of integers -/
theorem arg_ints {w : World} {base : Nat} {t e : Nat} {k : IntKind} {v : Value} (ht : Try.prog.underlying t = some (.slice e)) (he : Try.prog.underlying e = some (.int k)) (hC : Try.prog.cellsOf e = 1) (o : Value.okWide Try.prog w .any base t v) (r : Reads Try.prog w t v.cells.toList) :
    ∃ a len cap zs, v = .slice a len cap ∧ len ≤ cap ∧ cap ≤ 9223372036854775807 ∧ zs.length = len ∧ Elems k w a len zs ∧ ∀ i, i < len → (Lit.int k (zs[i]?.getD 0)).wf = true := by
  obtain ⟨a, len, cap, f, rfl, h1, h2, _, h3, h4⟩ := arg_rows ht hC (by omega) o r
  have key : ∀ i, ∃ n : Int, i < len → f i = [.int k n] ∧ (Lit.int k n).wf = true := by
    intro i
    by_cases hi : i < len
    · obtain ⟨n, hn, hw⟩ := (h4 i hi).2.int he
      exact ⟨n, fun _ => ⟨hn, hw⟩⟩
    · exact ⟨0, fun h => (hi h).elim⟩
  obtain ⟨g, hg⟩ := Classical.axiomOfChoice key
  have hz : ∀ i, i < len → ((List.range len).map g)[i]?.getD 0 = g i := by
    intro i hi
    rw [List.getElem?_map, List.getElem?_range hi]; rfl
  refine ⟨a, len, cap, (List.range len).map g, rfl, h1, h2, by simp, fun i hi => ?_, fun i hi => by rw [hz i hi]; exact (hg i hi).2⟩
  obtain ⟨b, off, ha, hlt, hc⟩ := h3 i hi
  refine ⟨b, off, ha, hlt, ?_⟩
  have := hc 0 (by omega)
  rw [(hg i hi).1] at this
  rw [hz i hi]
  simpa using this
end Go.Proofs.Ytdjjmglocdhnhaa
