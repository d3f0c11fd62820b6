/-
  Batches of records in memory.
-/
import Derived.Test.YtbfkhghegkiifaaReplayPlain
import Derived.Test.YtbfkhghegkiifaaPairsMem
import Derived.Test.YtbfkhghegkiifaaRead2
namespace Go.Proofs.Ytbfkhghegkiifaa
open Go.RowKit
set_option linter.unusedVariables false
theorem flat_len {α : Type} (g : α → List Value) (C : Nat) (hC : ∀ x, (g x).length = C) (l : List α) : (l.flatMap g).length = l.length * C := by
  induction l with
  | nil => simp
  | cons x l ih => rw [List.flatMap_cons, List.length_append, hC, ih, List.length_cons, Nat.add_mul]; omega
theorem flat_at {α : Type} (g : α → List Value) (C : Nat) (hC : ∀ x, (g x).length = C) (l : List α) (i : Nat) (x : α) (h : l[i]? = some x) (j : Nat) (hj : j < C) : (l.flatMap g)[i * C + j]? = (g x)[j]? := by
  induction l generalizing i with
  | nil => simp at h
  | cons q l ih =>
    rw [List.flatMap_cons]
    cases i with
    | zero =>
      simp at h; subst h
      rw [Nat.zero_mul, Nat.zero_add, List.getElem?_append_left (by rw [hC]; exact hj)]
    | succ i =>
      rw [List.getElem?_append_right (by rw [hC, Nat.add_mul]; omega), hC, show (i + 1) * C + j - C = i * C + j from by rw [Nat.add_mul]; omega]
      exact ih i (by simpa using h)
theorem Vals.row {w : World} {a : Option Addr} {α : Type} {g : α → List Value} {C : Nat} (hC : ∀ x, (g x).length = C) (h0 : 0 < C) {l : List α} (h : Vals w a (l.flatMap g)) (i : Nat) (x : α) (hx : l[i]? = some x) :
    ∃ b off, a = some ⟨b, off, none⟩ ∧ b < w.heap.size ∧ ∀ j, j < C → w.cell? ⟨b, off + (i * C + j), none⟩ = (g x)[j]? := by
  have hi := (List.getElem?_eq_some_iff.1 hx).1
  have hl := flat_len g C hC l
  have hlt : ∀ j, j < C → i * C + j < (l.flatMap g).length := fun j hj => by
    rw [hl]
    have : (i + 1) * C ≤ l.length * C := Nat.mul_le_mul_right _ hi
    rw [Nat.add_mul] at this
    omega
  obtain ⟨b, off, ha, hb, _⟩ := h (i * C + 0) (hlt 0 h0)
  refine ⟨b, off, ha, hb, fun j hj => ?_⟩
  obtain ⟨b', off', ha', _, hc⟩ := h (i * C + j) (hlt j hj)
  rw [ha] at ha'
  cases ha'
  rw [hc, flat_at g C hC l i x hx j hj]
def byV (k : ByteArray) : List Value := k.data.toList.map fun b => Value.int .u8 (b.toNat : Int)
theorem byV_len (k : ByteArray) : (byV k).length = k.size := by
  unfold byV
  rw [List.length_map]
  rfl
/-- a found record, as its six cells read -/
structure Fd where
  off : Int
  len : Int
  kind : Int
  exp : Int
  ka : Option Addr
  kc : Nat
  key : ByteArray
def Fd.cells (f : Fd) : List Value := [.int .i64 f.off, .int .i64 f.len, .int .i64 f.kind, .slice f.ka f.key.size f.kc, .slice none 0 0, .int .i64 f.exp]
def Fd.rc (seq : Int) (f : Fd) : Rc := ⟨seq, f.off, f.len, f.kind, f.key, f.exp⟩
theorem Fd.cells_len (f : Fd) : f.cells.length = 6 := rfl
structure KeyIn (w : World) (f : Fd) : Prop where
  vals : Vals w f.ka (byV f.key)
  le : f.key.size ≤ 10
theorem KeyIn.below {w w' : World} {f : Fd} (h : KeyIn w f) (hb : Below w.heap.size w w') : KeyIn w' f := ⟨h.vals.below hb (Nat.le_refl _), h.le⟩
theorem vals_conv {w : World} {a : Option Addr} {c : Nat} {k : ByteArray} (h : Vals w a (byV k)) : (convert 40 9 (.slice a k.size c)).run Try.prog w = .ok (.string k) w := by
  by_cases hk : k.size = 0
  · rw [hk, run_convert_bytes_string w 40 9 5 a 0 c Try.underlying40 Try.underlying5 Try.underlying9]
    have e : k = ByteArray.empty := by
      cases k with
      | mk d =>
        have : d.size = 0 := hk
        have : d = #[] := Array.eq_empty_of_size_eq_zero this
        rw [this]; rfl
    subst e
    cases a <;> simp [Conv.bytesToString, loadCells]
    all_goals rfl
  · obtain ⟨b, off, rfl, _, _⟩ := h 0 (by rw [byV_len]; omega)
    have hl : k.size = k.data.toList.length := rfl
    rw [hl, run_convert_bytes_back w 40 9 5 ⟨b, off, none⟩ c k.data.toList Try.underlying40 Try.underlying5 Try.underlying9 (fun j hj => ?_)]
    obtain ⟨b', off', ha', _, hc⟩ := h j (by rw [byV_len]; exact hj)
    cases ha'
    rw [Go.WideShapes.add_plain, hc]
    unfold byV
    rw [List.getElem?_map, List.getElem?_eq_getElem hj]; rfl
/-- a batch, as its two cells read -/
structure Bt where
  seq : Int
  a : Option Addr
  c : Nat
  fs : List Fd
def Bt.cells (b : Bt) : List Value := [.int .i64 b.seq, .slice b.a b.fs.length b.c]
theorem Bt.cells_len (b : Bt) : b.cells.length = 2 := rfl
def Bt.rcs (b : Bt) : List Rc := b.fs.map (Fd.rc b.seq)
def recs (bs : List Bt) : List Rc := bs.flatMap Bt.rcs
theorem recs_append (l l' : List Bt) : recs (l ++ l') = recs l ++ recs l' := by unfold recs; rw [List.flatMap_append]
theorem recs_one (b : Bt) : recs [b] = b.rcs := by unfold recs; simp
/-- a batch's records in memory -/
structure BtIn (w : World) (b : Bt) : Prop where
  vals : Vals w b.a (b.fs.flatMap Fd.cells)
  keys : ∀ f ∈ b.fs, KeyIn w f
  le : b.fs.length ≤ 8
theorem BtIn.below {w w' : World} {b : Bt} (h : BtIn w b) (hb : Below w.heap.size w w') : BtIn w' b := ⟨h.vals.below hb (Nat.le_refl _), fun f hf => (h.keys f hf).below hb, h.le⟩
structure BtsIn (w : World) (a : Option Addr) (bs : List Bt) : Prop where
  vals : Vals w a (bs.flatMap Bt.cells)
  bts : ∀ b ∈ bs, BtIn w b
theorem BtsIn.below {w w' : World} {a : Option Addr} {bs : List Bt} (h : BtsIn w a bs) (hb : Below w.heap.size w w') : BtsIn w' a bs := ⟨h.vals.below hb (Nat.le_refl _), fun b hb' => (h.bts b hb').below hb⟩
theorem BtsIn.drewN {w : World} {a : Option Addr} {bs : List Bt} (h : BtsIn w a bs) (n : Nat) : BtsIn (w.drewN n) a bs := h.below (below_drewN (Below.refl _ _) n)
/-- batch i -/
theorem BtsIn.at {w : World} {a : Option Addr} {bs : List Bt} (h : BtsIn w a bs) (i : Nat) (x : Bt) (hx : bs[i]? = some x) :
    ∃ b off, a = some ⟨b, off, none⟩ ∧ b < w.heap.size ∧ w.cell? ⟨b, off + i * 2, none⟩ = some (.int .i64 x.seq) ∧ w.cell? ⟨b, off + i * 2 + 1, none⟩ = some (.slice x.a x.fs.length x.c) ∧ BtIn w x := by
  obtain ⟨b, off, ha, hb, hc⟩ := h.vals.row Bt.cells_len (by omega) i x hx
  exact ⟨b, off, ha, hb, hc 0 (by omega), hc 1 (by omega), h.bts x (List.mem_of_getElem? hx)⟩
/-- record j of a batch -/
theorem BtIn.at {w : World} {x : Bt} (h : BtIn w x) (j : Nat) (f : Fd) (hf : x.fs[j]? = some f) :
    ∃ b off, x.a = some ⟨b, off, none⟩ ∧ b < w.heap.size ∧ w.cell? ⟨b, off + j * 6, none⟩ = some (.int .i64 f.off) ∧ w.cell? ⟨b, off + j * 6 + 1, none⟩ = some (.int .i64 f.len) ∧ w.cell? ⟨b, off + j * 6 + 2, none⟩ = some (.int .i64 f.kind) ∧
      w.cell? ⟨b, off + j * 6 + 3, none⟩ = some (.slice f.ka f.key.size f.kc) ∧ w.cell? ⟨b, off + j * 6 + 4, none⟩ = some (.slice none 0 0) ∧ w.cell? ⟨b, off + j * 6 + 5, none⟩ = some (.int .i64 f.exp) ∧ KeyIn w f := by
  obtain ⟨b, off, ha, hb, hc⟩ := h.vals.row Fd.cells_len (by omega) j f hf
  exact ⟨b, off, ha, hb, hc 0 (by omega), hc 1 (by omega), hc 2 (by omega), hc 3 (by omega), hc 4 (by omega), hc 5 (by omega), h.keys f (List.mem_of_getElem? hf)⟩
def liveI (now e : Int) : Bool := decide (e = 0) || decide (now < e)
end Go.Proofs.Ytbfkhghegkiifaa
