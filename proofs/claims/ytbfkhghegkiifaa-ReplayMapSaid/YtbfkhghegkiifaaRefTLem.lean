/-
  The reference's Set, Get, Delete: what they give.
-/
import Derived.Test.YtbfkhghegkiifaaRefTab
import Derived.Test.YtbfkhghegkiifaaRefList
import Derived.Deep.RegionLaw
import Derived.BigRegion
namespace Go.Proofs.Ytbfkhghegkiifaa
open Go.RowKit
set_option linter.unusedVariables false
theorem src_takeP {w W : World} {a : Option Addr} {cap : Nat} {L : List Pr} (hv : Vals w a (pairsC L)) (hb : Below w.heap.size w W) (k : Nat) (hk : k ≤ L.length) (h0 : a = none → L.length = 0 ∧ cap = 0) : Src W 6 (.slice a k cap) k (pairsC (L.take k)) := by
  rw [pairsC_take]
  refine ((hv.below hb (Nat.le_refl _)).take (k * 6)).src ?_ (fun e => ?_)
  · rw [List.length_take, pairsC_len]; omega
  · obtain ⟨h1, h2⟩ := h0 e
    exact ⟨by omega, h2⟩
theorem src_dropP {w W : World} {g off n cap : Nat} {L : List Pr} (hv : Vals w (some ⟨g, off, none⟩) (pairsC L)) (hc : L.length ≤ cap) (hb : Below w.heap.size w W) (k : Nat) (hk : k ≤ L.length) (hn : L.length = n) :
    Src W 6 (.slice (if cap = k then some ⟨g, off, none⟩ else some ⟨g, off + k * 6, none⟩) (n - k) (cap - k)) (n - k) (pairsC (L.drop k)) := by
  subst hn
  have hv := hv.below hb (Nat.le_refl _)
  have hl : (pairsC (L.drop k)).length = (L.length - k) * 6 := by rw [pairsC_len, List.length_drop]
  split
  · rename_i h
    have e : L.drop k = [] := List.drop_eq_nil_of_le (by omega)
    rw [e]
    exact Vals.src Vals.nil (by rw [e] at hl; exact hl) (fun e => by cases e)
  · rw [pairsC_drop] at hl ⊢
    exact (hv.drop (k * 6)).src hl (fun e => by cases e)
/-- a new row is stored -/
theorem RTp.store {w w2 : World} {bm : Nat} {v v2 : Value} {L L2 : List Pr} (h : RTp w bm v L) (hb : Below w.heap.size w w2) (hown : w2.ownsRow w.heap.size 38 6 v2 L2.length (pairsC L2)) :
    RTp (w2.setCell ⟨bm, 0, none⟩ v2) bm v2 L2 ∧ Fr (fun k => k = bm) w (w2.setCell ⟨bm, 0, none⟩ v2) ∧ ∀ g, v2.ownBlock = some g → w.heap.size ≤ g := by
  have hbm := blk_lt h.blk
  have hblk : w2.heap[bm]? = some (.cells #[v] 56 (0, 0)) := (hb.block bm hbm).trans h.blk
  have hother : ∀ k, k ≠ bm → (w2.setCell ⟨bm, 0, none⟩ v2).heap[k]? = w2.heap[k]? := fun k hk => Below.heap_setCell _ _ _ _ hk
  have hsz : (w2.setCell ⟨bm, 0, none⟩ v2).heap.size = w2.heap.size := by simp [World.setCell]
  have hfr : Fr (fun k => k = bm) w2 (w2.setCell ⟨bm, 0, none⟩ v2) := ⟨rfl, rfl, rfl, by omega, fun k hk hne => hother k hne⟩
  have hnew : ∀ g, v2.ownBlock = some g → w.heap.size ≤ g := fun g hg => (hown.lt g hg).1
  refine ⟨⟨by rw [blk_set hblk]; rfl, ?_, fun e => by have := hnew _ e; omega⟩, (Fr.of_below (S := fun k => k = bm) hb).trans hfr (fun j hj => .inl hj), hnew⟩
  have := own_fr hown hfr (fun g hg => by have := hnew g hg; omega)
  exact own_base this (Nat.zero_le _)
theorem RTp.form {w : World} {bm : Nat} {v : Value} {L : List Pr} (h : RTp w bm v L) : (v = .slice none 0 0 ∧ L = []) ∨ ∃ g off cap, v = .slice (some ⟨g, off, none⟩) L.length cap ∧ Vals w (some ⟨g, off, none⟩) (pairsC L) ∧ L.length ≤ cap ∧ cap ≤ maxLen ∧ g < w.heap.size := by
  obtain ⟨a, cap, rfl, hv, hle, hmax⟩ := h.len
  rcases h.row.2 with ⟨hnil, h0⟩ | ⟨g, cap', cur, hvv, _, hg, _⟩
  · exact .inl ⟨hnil, List.eq_nil_of_length_eq_zero h0⟩
  · cases hvv
    exact .inr ⟨g, 0, cap, rfl, hv, hle, hmax, blk_lt hg⟩
/-- what a call of Set gives -/
def SetR (w w' : World) (bm : Nat) (L : List Pr) (R : Nat → Prop) (k : ByteArray) (e : Ent) : Prop :=
  ∃ L' R', RT w' bm L' R' ∧ Asc L' ∧ (∀ x, x ∈ L' ↔ x = ⟨k, e⟩ ∨ (x.key ≠ k ∧ x ∈ L)) ∧ L'.length ≤ L.length + 1 ∧ Fr R w w' ∧ ∀ j, R' j → R j ∨ w.heap.size ≤ j
theorem SetR.pre {w w2 w' : World} {bm : Nat} {L : List Pr} {R : Nat → Prop} {k : ByteArray} {e : Ent} (hb : Below w.heap.size w w2) (h : SetR w2 w' bm L R k e) : SetR w w' bm L R k e := by
  obtain ⟨L', R', h1, h2, h3, h4, h5, h6⟩ := h
  exact ⟨L', R', h1, h2, h3, h4, (Fr.of_below hb).trans h5 (fun j hj => .inl hj), fun j hj => (h6 j hj).imp id (fun h => by have := hb.size; omega)⟩
/-- the entry of a pair is written -/
def setE (w : World) (g i : Nat) (e : Ent) : World :=
  ((((w.setCell ⟨g, i * 6 + 1, none⟩ (.int .i64 e.seq)).setCell ⟨g, i * 6 + 2, none⟩ (.int .i64 e.off)).setCell ⟨g, i * 6 + 3, none⟩ (.int .i64 e.len)).setCell ⟨g, i * 6 + 4, none⟩ (.int .i64 e.exp)).setCell ⟨g, i * 6 + 5, none⟩ (.bool e.hit)
theorem own_setE {w : World} {g cap n : Nat} {L : List Pr} (h : w.ownsRow 0 38 6 (.slice (some ⟨g, 0, none⟩) n cap) n (pairsC L)) (i : Nat) (k : ByteArray) (e : Ent) (y : Pr) (hy : L[i]? = some y) (hk : y.key = k) :
    (setE w g i e).ownsRow 0 38 6 (.slice (some ⟨g, 0, none⟩) n cap) n (pairsC (L.set i ⟨k, e⟩)) ∧ w.grownBy (setE w g i e) (some g) := by
  obtain ⟨s1, g1⟩ := h.stored (i * 6 + 1) (.int .i64 e.seq)
  obtain ⟨s2, g2⟩ := s1.stored (i * 6 + 2) (.int .i64 e.off)
  obtain ⟨s3, g3⟩ := s2.stored (i * 6 + 3) (.int .i64 e.len)
  obtain ⟨s4, g4⟩ := s3.stored (i * 6 + 4) (.int .i64 e.exp)
  obtain ⟨s5, g5⟩ := s4.stored (i * 6 + 5) (.bool e.hit)
  rw [pairsC_set L i k e y hy hk]
  exact ⟨s5, grown_tr7 (grown_tr7 (grown_tr7 (grown_tr7 g1 g2) g3) g4) g5⟩
theorem set_over' {w w2 : World} {bm g cap n i : Nat} {L : List Pr} {R : Nat → Prop} {k : ByteArray} {e : Ent} {y : Pr} (h : RTp w bm (.slice (some ⟨g, 0, none⟩) n cap) L) (hn : L.length = n) (hR : R = fun k => k = bm ∨ (Value.slice (some ⟨g, 0, none⟩) n cap).ownBlock = some k) (hb : Below w.heap.size w w2)
    (hA : Asc L) (hy : L[i]? = some y) (hk : y.key = k) : SetR w (setE w2 g i e) bm L R k e := by
  subst hn hk hR
  obtain ⟨a1, a2⟩ := asc_over (e := e) hA hy
  have h2 := h.below hb
  obtain ⟨s, gr⟩ := own_setE h2.row i y.key e y hy rfl
  have hfr : Fr (fun k => k = g) w2 (setE w2 g i e) := .of_grown gr (fun k hk => by cases hk; rfl)
  have hne : bm ≠ g := fun e => h.ne (by rw [e]; rfl)
  refine ⟨L.set i ⟨y.key, e⟩, _, ⟨_, ⟨(hfr.block bm (blk_lt h2.blk) hne).trans h2.blk, by rw [List.length_set]; exact s, h.ne⟩, rfl⟩, a1, a2, by rw [List.length_set]; omega, ?_, fun j hj => .inl hj⟩
  exact (Fr.of_below hb).trans hfr (fun j hj => .inl (.inr (by rw [hj]; rfl)))
theorem set_ins' {w w2 : World} {bm i : Nat} {L : List Pr} {R : Nat → Prop} {k : ByteArray} {e : Ent} {v v2 : Value} {m : Nat} (h : RTp w bm v L) (hR : R = fun k => k = bm ∨ v.ownBlock = some k) (hb : Below w.heap.size w w2) (hA : Asc L) (hat : AtR L k i) (hne : ∀ x, L[i]? = some x → x.key ≠ k)
    (hown : w2.ownsRow w.heap.size 38 6 v2 m ((pairsC (L.take i) ++ prC ⟨k, e⟩) ++ pairsC (L.drop i))) (hm : m = L.length + 1) : SetR w (w2.setCell ⟨bm, 0, none⟩ v2) bm L R k e := by
  subst hR hm
  obtain ⟨a1, a2⟩ := asc_ins (e := e) hat hA hne
  have hl : (L.take i ++ ⟨k, e⟩ :: L.drop i).length = L.length + 1 := by
    rw [List.length_append, List.length_cons, List.length_take, List.length_drop]
    have := hat.le
    omega
  have hown' : w2.ownsRow w.heap.size 38 6 v2 (L.take i ++ ⟨k, e⟩ :: L.drop i).length (pairsC (L.take i ++ ⟨k, e⟩ :: L.drop i)) := by
    rw [hl, pairsC_append]
    simp only [pairsC]
    rw [← List.append_assoc]
    exact hown
  obtain ⟨r1, r2, r3⟩ := h.store hb hown'
  exact ⟨_, _, ⟨_, r1, rfl⟩, a1, a2, by omega, r2.mono (fun j _ hj => .inl hj), fun j hj => by
    rcases hj with rfl | hj
    · exact .inl (.inl rfl)
    · exact .inr (r3 j hj)⟩
def DelR (w w' : World) (bm : Nat) (L : List Pr) (R : Nat → Prop) (k : ByteArray) (b : Bool) : Prop :=
  ∃ L' R', RT w' bm L' R' ∧ Asc L' ∧ (∀ x, x ∈ L' ↔ (x.key ≠ k ∧ x ∈ L)) ∧ L'.length ≤ L.length ∧ (b = true ↔ ∃ e, ⟨k, e⟩ ∈ L) ∧ Fr R w w' ∧ ∀ j, R' j → R j ∨ w.heap.size ≤ j
theorem del_hit' {w w2 : World} {bm i : Nat} {L : List Pr} {R : Nat → Prop} {y : Pr} {v v2 : Value} {m : Nat} (h : RTp w bm v L) (hR : R = fun k => k = bm ∨ v.ownBlock = some k) (hb : Below w.heap.size w w2) (hA : Asc L) (hy : L[i]? = some y)
    (hown : w2.ownsRow w.heap.size 38 6 v2 m (pairsC (L.take i) ++ pairsC (L.drop (i + 1)))) (hm : m + 1 = L.length) : DelR w (w2.setCell ⟨bm, 0, none⟩ v2) bm L R y.key true := by
  subst hR
  obtain ⟨a1, a2⟩ := asc_del hA hy
  have hi := (List.getElem?_eq_some_iff.1 hy).1
  have hl : (L.take i ++ L.drop (i + 1)).length = m := by
    rw [List.length_append, List.length_take, List.length_drop]
    omega
  have hown' : w2.ownsRow w.heap.size 38 6 v2 (L.take i ++ L.drop (i + 1)).length (pairsC (L.take i ++ L.drop (i + 1))) := by
    rw [hl, pairsC_append]
    exact hown
  obtain ⟨r1, r2, r3⟩ := h.store hb hown'
  exact ⟨_, _, ⟨_, r1, rfl⟩, a1, a2, by omega, ⟨fun _ => ⟨y.en, List.mem_of_getElem? hy⟩, fun _ => rfl⟩, r2.mono (fun j _ hj => .inl hj), fun j hj => by
    rcases hj with rfl | hj
    · exact .inl (.inl rfl)
    · exact .inr (r3 j hj)⟩
theorem del_miss' {w w2 : World} {bm i : Nat} {L : List Pr} {R : Nat → Prop} {k : ByteArray} (h : RT w bm L R) (hb : Below w.heap.size w w2) (hA : Asc L) (hat : AtR L k i) (hne : ∀ x, L[i]? = some x → x.key ≠ k) : DelR w w2 bm L R k false := by
  have hno := at_miss hat hA hne
  exact ⟨L, R, h.below hb, hA, fun x => ⟨fun hx => ⟨hno x hx, hx⟩, fun hx => hx.2⟩, Nat.le_refl _, ⟨fun h => (by cases h), fun ⟨e, he⟩ => absurd rfl (hno _ he)⟩, .of_below hb, fun j hj => .inl hj⟩
end Go.Proofs.Ytbfkhghegkiifaa
