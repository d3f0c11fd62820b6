/-
  The queue: what it stands for; New, Len, Remove.
-/
import Derived.Test.YtmbjkkoennadkaaMap18
import Derived.Carry
import Derived.Handy
namespace Go.Proofs.Ytmbjkkoennadkaa
open Go.RowKit Go.Maps
theorem strK : Keyed Try.prog 9 := string_keyed Try.underlying9
abbrev OM (w : World) (mb m : Nat) (D : DataW Nat) : Prop := w.ownsMap Try.prog 9 (plainElem Try.prog 3) mb m D
theorem keyK {k : ByteArray} (h : k.size ≤ maxLen) : keyOf Try.prog 9 (.string k) = some (klit k) := WideMaps.keyOf_string_mk Try.underlying9 h
theorem mapT : Try.prog.underlying 52 = some (.map 9 3) := Try.underlying52
theorem valE {a : Int} (h : (Lit.int .i64 a).wf = true) : plainElem (H := Nat) Try.prog 3 (.int .i64 a) = some (zlit a, []) := plainElem_int Try.underlying3 h
/-- the queue's block b, its list, its map's block mb -/
structure Qd (w : World) (b N : Nat) (v : Value) (l : List Item) (mb m : Nat) (D : DataW Nat) (L : List Item) : Prop where
  hp : Hp w b 0 v l (.map (some mb))
  om : OM w mb m D
  mN : m ≤ N
  lN : l.length ≤ N
  ag : Agree D L
  ri : Rising L
  ho : HeapO l
  sub : ∀ x ∈ L, x ∈ l
  fit : ∀ x ∈ l, 1 ≤ x.at' ∧ x.key.size ≤ maxLen
def foot (b : Nat) (v : Value) (mb : Nat) : Nat → Prop := fun k => k = b ∨ v.ownBlock = some k ∨ k = mb
def QOk (w : World) (b N : Nat) (S : Nat → Prop) (L : List Item) : Prop := ∃ v l mb m D, Qd w b N v l mb m D L ∧ S = foot b v mb
theorem OM.frame {w w' : World} {mb m : Nat} {D : DataW Nat} {S : Nat → Prop} (h : OM w mb m D) (hf : Fr S w w') (hS : ¬ S mb) : OM w' mb m D := by
  have hlt := h.lt
  obtain ⟨es, clock, hb, F, hs, hD⟩ := h
  exact ⟨es, clock, (hf.block mb hlt hS).trans hb, F, hs, hD⟩
theorem Hp.frame {w w' : World} {b base : Nat} {v mp : Value} {l : List Item} {S : Nat → Prop} (h : Hp w b base v l mp) (hf : Fr S w w') (hb : ¬ S b) (hv : ∀ g, v.ownBlock = some g → ¬ S g) : Hp w' b base v l mp :=
  ⟨by rw [hf.block b (blk_lt h.blk) hb]; exact h.blk, own_fr h.own hf hv⟩
theorem QOk.frame {w w' : World} {b N : Nat} {S T : Nat → Prop} {L : List Item} (h : QOk w b N S L) (hf : Fr T w w') (hd : ∀ k, S k → ¬ T k) : QOk w' b N S L := by
  obtain ⟨v, l, mb, m, D, q, rfl⟩ := h
  exact ⟨v, l, mb, m, D, ⟨q.hp.frame hf (hd _ (.inl rfl)) (fun g hg => hd _ (.inr (.inl hg))), q.om.frame hf (hd _ (.inr (.inr rfl))), q.mN, q.lN, q.ag, q.ri, q.ho, q.sub, q.fit⟩, rfl⟩
theorem QOk.lt {w : World} {b N : Nat} {S : Nat → Prop} {L : List Item} (h : QOk w b N S L) : ∀ k, S k → k < w.heap.size := by
  obtain ⟨v, l, mb, m, D, q, rfl⟩ := h
  rintro k (rfl | h | rfl)
  · exact blk_lt q.hp.blk
  · exact (q.hp.own.lt k h).2
  · exact q.om.lt
/-- the map's block is neither the queue's nor the row's -/
theorem Qd.mb_ne {w : World} {b N : Nat} {v : Value} {l : List Item} {mb m : Nat} {D : DataW Nat} {L : List Item} (q : Qd w b N v l mb m D L) : mb ≠ b ∧ ∀ g, v.ownBlock = some g → g ≠ mb := by
  obtain ⟨es, clock, hb, _⟩ := q.om
  refine ⟨fun e => ?_, fun g hg e => ?_⟩
  · subst e; rw [q.hp.blk] at hb; cases hb
  · subst e
    rcases q.hp.own.2 with ⟨rfl, _⟩ | ⟨g', cap, cur, rfl, _, hh, _⟩
    · simp [Value.ownBlock] at hg
    · simp [Value.ownBlock] at hg; subst hg; rw [hb] at hh; cases hh
theorem drop_queue {w w' : World} {b N : Nat} {v : Value} {l : List Item} {mb m : Nat} {D : DataW Nat} {L : List Item} (q : Qd w b N v l mb m D L) (k : ByteArray) (ho : OM w' mb m (D.del (klit k))) (ht : w.mapTurned w' mb) :
    Qd w' b N v l mb m (D.del (klit k)) (remL L k) ∧ Fr (fun j => j = mb) w w' := by
  have hg := ht.grown
  have hf : Fr (fun j => j = mb) w w' := .of_grown hg (by rintro j e; cases e; rfl)
  obtain ⟨h1, h2⟩ := q.mb_ne
  exact ⟨⟨q.hp.frame hf (fun e => h1 e.symm) (fun g hg e => h2 g hg e), ho, q.mN, q.lN, q.ag.del (q.om.tidy strK) q.ri k, q.ri.rem k, q.ho, fun x hx => q.sub x (mem_remL.1 hx).1, q.fit⟩, hf⟩
theorem len12 (b N : Nat) (S : Nat → Prop) (L : List Item) (w : World) (h : QOk w b N S L) :
    Calls Try.prog 12 #[.pointer (some ⟨b, 0, none⟩)] w fun e w' => e = .returned (.int .i64 (L.length : Int)) ∧ w = w' := by
  obtain ⟨v, l, mb, m, D, q, _⟩ := h
  have c2 := blk_cell (i := 2) q.hp.blk
  simp only [List.getElem?_toArray, List.getElem?_cons_zero, List.getElem?_cons_succ] at c2
  have hs := q.ag.size
  have OMH := Lib.hid q.om
  have HS := Lib.hid hs
  clear q hs
  go_enter Try.func12, Try.ntmps12
  go_wp2_with (first | (at_len; (refine wpList_len_own _ rfl _ 52 rfl 9 3 mapT (plainElem Try.prog 3) mb m D rfl OMH.out ?_)) | fail)
  go_ret
  exact ⟨by rw [HS.out]; rfl, rfl⟩
theorem remove14 (b N : Nat) (S : Nat → Prop) (L : List Item) (k : ByteArray) (hk : k.size ≤ maxLen) (w : World) (h : QOk w b N S L) :
    Calls Try.prog 14 #[.pointer (some ⟨b, 0, none⟩), .string k] w fun e w' => NoRes e ∧ QOk w' b N S (remL L k) ∧ Fr S w w' := by
  obtain ⟨v, l, mb, m, D, q, rfl⟩ := h
  have c2 := blk_cell (i := 2) q.hp.blk
  simp only [List.getElem?_toArray, List.getElem?_cons_zero, List.getElem?_cons_succ] at c2
  have OMH := Lib.hid q.om
  have Q := Lib.hid q
  have HK := Lib.hid (keyK hk)
  clear q
  go_enter Try.func14, Try.ntmps14
  go_wp2_with (first | (at_delete; (refine wpList_delete_own _ rfl _ _ 52 9 rfl 3 strK mapT (plainElem Try.prog 3) mb m D rfl OMH.out _ (klit k) rfl HK.out ?_); intro w1 hown1 hturn1) | fail)
  go_end0
  obtain ⟨q1, hf⟩ := drop_queue Q.out k hown1 hturn1
  exact ⟨rfl, ⟨v, l, mb, m, _, q1, rfl⟩, hf.mono (fun j _ e => .inr (.inr e))⟩
theorem new7 (w : World) : Calls Try.prog 7 #[] w fun e w' => ∃ b S, e = .returned (.pointer (some ⟨b, 0, none⟩)) ∧ QOk w' b 0 S [] ∧ Fr (fun _ => False) w w' ∧ ∀ k, S k → w.heap.size ≤ k := by
  go_enter Try.func7, Try.ntmps7
  have hm := run_makeMap (P := Try.prog) 52 w
  go_wp2_with fail
  go_ret
  refine ⟨w.heap.size + 1, foot (w.heap.size + 1) (.slice none 0 0) w.heap.size, rfl, ⟨.slice none 0 0, [], w.heap.size, 0, .map [], ?_, rfl⟩, Fr.alloc (Fr.alloc (Fr.refl _ _) _) _, ?_⟩
  · have hob : ∀ o, ((w.alloc (.map #[] 0)).alloc o).heap[w.heap.size + 1]? = some o := fun o => by
      show ((w.heap.push _).push o)[w.heap.size + 1]? = some o
      rw [Array.getElem?_push, Array.size_push, if_pos rfl]
    exact ⟨⟨hob _, ⟨rfl, .inl ⟨rfl, rfl⟩⟩⟩, (World.ownsMap_made w Try.prog _ _).alloc _, Nat.le_refl _, Nat.le_refl _, .nil, .nil, fun j _ => leO_none _, by simp, by simp⟩
  · rintro k (rfl | h | rfl)
    · omega
    · simp [Value.ownBlock] at h
    · exact Nat.le_refl _
end Go.Proofs.Ytmbjkkoennadkaa
