/-
  The contract of Next.
-/
import Derived.Test.YtmbjkkoennadkaaQueue
import Derived.Deep.LoopGhost
import Derived.BigRegion
namespace Go.Proofs.Ytmbjkkoennadkaa
open Go.RowKit Go.Maps
def nextA : List Item → Int
  | [] => 0
  | x :: _ => x.at'
def nextB : List Item → Bool
  | [] => false
  | _ :: _ => true
/-- the least item counts: it is the list's head -/
theorem top_head {w : World} {b N : Nat} {v : Value} {l : List Item} {mb m : Nat} {D : DataW Nat} {L : List Item} (q : Qd w b N v l mb m D L) {y : Item} (hy : l[0]? = some y) (h : look L y.key = y.at') :
    ∃ L', L = y :: L' := by
  have hyl : y ∈ l := List.mem_of_getElem? hy
  have hp := (q.fit y hyl).1
  have hin : y ∈ L := by
    have := look_mem (l := L) (k := y.key) (by omega)
    rw [h] at this
    exact this
  cases L with
  | nil => simp at hin
  | cons x L' =>
    have hx : leI y x := heap_least l q.ho y hy x (q.sub x (by simp))
    rcases List.mem_cons.1 hin with rfl | hin
    · exact ⟨L', rfl⟩
    · have := (List.pairwise_cons.1 q.ri.up).1 y hin
      unfold leI at hx
      rw [this] at hx
      cases hx
theorem popped {w w' : World} {b N n g cap : Nat} {l : List Item} {mb m : Nat} {D : DataW Nat} {L : List Item} (q : Qd w b N (.slice (some ⟨g, 0, none⟩) (n + 1) cap) l mb m D L) (hn : l.length = n + 1) {y : Item} (hy : l[0]? = some y)
    (h : look L y.key ≠ y.at') (hp : Hp w' b 0 (.slice (some ⟨g, 0, none⟩) n cap) (popTop l n) (.map (some mb))) (hf : Fr (fun k => k = b ∨ k = g) w w') : Qd w' b N (.slice (some ⟨g, 0, none⟩) n cap) (popTop l n) mb m D L := by
  obtain ⟨h1, h2⟩ := q.mb_ne
  have hperm := popTop_perm l n hn y hy
  refine ⟨hp, q.om.frame hf (by rintro (e | e); exact h1 e; exact h2 g rfl e.symm), q.mN, ?_, q.ag, q.ri, popTop_heap l n hn q.ho, fun x hx => ?_, fun x hx => q.fit x (hperm.mem_iff.2 (List.mem_cons_of_mem _ hx))⟩
  · have := hperm.length_eq
    simp at this
    have := q.lN
    omega
  · rcases List.mem_cons.1 (hperm.mem_iff.1 (q.sub x hx)) with rfl | h'
    · exact absurd (look_of_mem q.ri.keys hx) h
    · exact h'
theorem Qd.below {w w' : World} {b N : Nat} {v : Value} {l : List Item} {mb m : Nat} {D : DataW Nat} {L : List Item} (q : Qd w b N v l mb m D L) (hb : Below w.heap.size w w') : Qd w' b N v l mb m D L :=
  ⟨q.hp.below hb, q.om.frame (S := fun _ => False) (.of_below hb) (fun f => f), q.mN, q.lN, q.ag, q.ri, q.ho, q.sub, q.fit⟩
theorem Qd.form {w : World} {b N : Nat} {v : Value} {l : List Item} {mb m : Nat} {D : DataW Nat} {L : List Item} (q : Qd w b N v l mb m D L) : (l = [] ∧ v = .slice none 0 0) ∨ ∃ g cap, v = .slice (some ⟨g, 0, none⟩) l.length cap := by
  rcases q.hp.own.2 with ⟨h, hl⟩ | ⟨g, cap, _, h, _⟩
  · exact .inl ⟨List.length_eq_zero_iff.1 hl, h⟩
  · exact .inr ⟨g, cap, h⟩
set_option maxRecDepth 100000 in
set_option maxHeartbeats 4000000 in
theorem next17 (b N : Nat) (v : Value) (l : List Item) (mb m : Nat) (D : DataW Nat) (L : List Item) (w : World) (hN : N ≤ 1000000) (h : Qd w b N v l mb m D L) :
    Calls Try.prog 17 #[.pointer (some ⟨b, 0, none⟩)] w fun e w' =>
      e = .returned (.tuple #[.int .i64 (nextA L), .bool (nextB L)]) ∧ ∃ v' l', Qd w' b N v' l' mb m D L ∧ v'.ownBlock = v.ownBlock ∧ (nextB L = true → l'[0]? = L.head?) ∧ Fr (fun k => k = b ∨ v.ownBlock = some k) w w' := by
  have HQ := Lib.hid h
  clear h
  go_enter Try.func17, Try.ntmps17
  go_wp2_with fail
  go_loopg [2, 3, 4] l.length (fun gk _ _ _ wr => ∃ v' l', l'.length = gk ∧ Qd wr b N v' l' mb m D L ∧ v'.ownBlock = v.ownBlock ∧ Fr (fun k => k = b ∨ v.ownBlock = some k) w wr)
  case atStart => exact ⟨v, l, rfl, HQ.out, rfl, Fr.refl _ _⟩
  case round =>
    obtain ⟨v', l', hgk, q, hv, hf⟩ := hrel
    have HV := Lib.hid hv
    have HF := Lib.hid hf
    have HGK := Lib.hid hgk
    have b0 := blk_cell (i := 0) q.hp.blk
    have b2 := blk_cell (i := 2) q.hp.blk
    simp only [List.getElem?_toArray, List.getElem?_cons_zero, List.getElem?_cons_succ] at b0 b2
    clear hv hf hgk
    rcases Nat.eq_zero_or_pos l'.length with h0 | hpos
    · obtain rfl : l' = [] := List.length_eq_zero_iff.1 h0
      have hL : L = [] := List.eq_nil_iff_forall_not_mem.2 (fun x hx => by simpa using q.sub x hx)
      have HL := Lib.hid hL
      obtain ⟨a, cap, hav⟩ : ∃ a cap, v' = .slice a 0 cap := by
        rcases q.form with ⟨_, h⟩ | ⟨g, cap, h⟩
        · exact ⟨_, _, h⟩
        · exact ⟨_, _, h⟩
      subst hav
      have Q := Lib.hid q
      clear q hL h0
      go_wp2_with fail
      go_ret2
      exact ⟨by rw [HL.out]; rfl, _, _, Q.out, HV.out, by rw [HL.out]; simp [nextB], HF.out⟩
    · obtain ⟨n, hn⟩ : ∃ n, l'.length = n + 1 := ⟨l'.length - 1, by omega⟩
      obtain ⟨g, cap, hav⟩ : ∃ g cap, v' = .slice (some ⟨g, 0, none⟩) (n + 1) cap := by
        rcases q.form with ⟨h, _⟩ | ⟨g, cap, h⟩
        · subst h; simp at hn
        · exact ⟨g, cap, by rw [h, hn]⟩
      subst hav
      obtain ⟨y, hy⟩ : ∃ y, l'[0]? = some y := ⟨_, List.getElem?_eq_getElem (by omega)⟩
      obtain ⟨y0, y1⟩ := itemCells_at l' 0 y hy
      have own := q.hp.own
      rw [hn] at own
      have d0 := own.cellAt 0 (by omega)
      have d1 := own.cellAt 1 (by omega)
      rw [show (0 : Nat) * 2 = 0 from rfl] at y0 y1
      rw [y0] at d0; rw [y1] at d1
      obtain ⟨c, hlk, hat, _⟩ := World.ownsMap.lookup_int ((q.om.alloc (.cells #[.string y.key, .int .i64 y.at'] 57)).drew) strK mapT Try.underlying3 (by rfl) (keyK (q.fit y (List.mem_of_getElem? hy)).2)
      have hc : c = look L y.key := by
        have := q.ag.at' y.key
        unfold zlit at this
        rw [hat] at this
        injection this with this
        injection this
      have HC := Lib.hid hc
      have HY := Lib.hid hy
      have Q := Lib.hid q
      have blt := blk_lt q.hp.blk
      have hnn : (0 : Int) < n + 1 := by omega
      clear q own y0 y1 hc hy hat
      have hbel : Below wr.heap.size wr (wr.alloc (.cells #[.string y.key, .int .i64 y.at'] 57)).drew := ((Below.refl _ _).alloc (Nat.le_refl _) _).drew
      have Q2 := Lib.hid (Q.out.below hbel)
      have HF2 := Lib.hid (HF.out.trans (.of_below (S := fun _ => False) hbel) (fun _ f => f.elim))
      clear hbel
      by_cases hcy : c = y.at'
      · have hbe : (c == y.at') = true := by simp [hcy]
        have TH := Lib.hid (top_head Q.out HY.out (HC.out ▸ hcy))
        clear hcy
        go_wp2_with fail
        go_region
        go_wp2_with fail
        go_ret2
        obtain ⟨L', hL⟩ := TH.out
        exact ⟨by rw [hL]; rfl, _, _, Q2.out, HV.out, by rw [hL]; intro _; exact HY.out, HF2.out⟩
      · have hbe : (c == y.at') = false := by simp [hcy]
        have hne := Lib.hid (show look L y.key ≠ y.at' from HC.out ▸ hcy)
        have PO := Lib.hid (pop21 b 0 g n cap (.map (some mb)) l' y _ hn (by have := Q.out.lN; omega) HY.out Q2.out.hp)
        clear hcy
        go_wp2_with fail
        go_region
        go_wp2_with fail
        with_reducible refine PO.out.mono ?_
        rintro e w2 ⟨rfl, hp2, hf2⟩
        have Q3 := Lib.hid (popped Q2.out hn HY.out hne.out hp2 hf2)
        have HF3 := Lib.hid (HF2.out.trans hf2 (by rintro j (e | e); exact .inl (.inl e); exact .inl (.inr (by rw [← HV.out, e]; rfl))))
        have HL := Lib.hid (show (popTop l' n).length = n by
          have := (popTop_perm l' n hn y HY.out).length_eq
          simp at this; omega)
        clear hp2 hf2
        go_wp2_with fail
        go_roundg n
        case rel => exact ⟨_, _, HL.out, Q3.out, HV.out, HF3.out⟩
        case measure => have := HGK.out; omega
end Go.Proofs.Ytmbjkkoennadkaa
