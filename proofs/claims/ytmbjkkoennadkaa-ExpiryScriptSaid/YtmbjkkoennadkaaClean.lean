/-
  The contract of clean: the heap is laid anew out of the map.
-/
import Derived.Test.YtmbjkkoennadkaaNext
import Derived.Maps.RangeWalk
import Derived.Maps.OwnSet
namespace Go.Proofs.Ytmbjkkoennadkaa
open Go.RowKit Go.Maps
theorem keyOf_str_inv {key : Value} {kl : Lit} (h : keyOf Try.prog 9 key = some kl) : ∃ s : ByteArray, key = .string s ∧ kl = klit s ∧ s.size ≤ maxLen := by
  cases key <;> simp [keyOf, Try.underlying9, mapKey] at h
  obtain ⟨h1, h2⟩ := h
  exact ⟨_, rfl, h2.symm, h1⟩
/-- the step of a range loop over a map of strings to integers -/
theorem wpList_next_si {w : World} {ops : Array Oper} {rest : List Oper} {o : Oper} {a : Act} {Q : Exit → Act → World → Prop} (hg : o.guard = none) (it : Operand) (hop : o.op = Op.next it false)
    (b r n : Nat) (D : DataW Nat) (left : Lit → Bool) (cnt : Nat) (hit : a.eval it = .pointer (some ⟨r, 0, none⟩)) (h : w.ranges Try.prog 9 (plainElem Try.prog 3) b r n D left cnt)
    (hDone : cnt = 0 → (∀ kl, left kl = false) → wpList Try.prog ops Q rest (a.put o.dst (.tuple #[.bool false])) w)
    (hMore : ∀ (x : ByteArray) (c : Int) (w' : World) (cnt' : Nat), x.size ≤ maxLen → left (klit x) = true → (∀ zd, D.atKey (klit x) zd = zlit c) →
      w'.ranges Try.prog 9 (plainElem Try.prog 3) b r n D (fun z => left z && !z.sameKey (klit x)) cnt' → cnt' < cnt →
      w.grownBy w' (some r) → w'.heap.size = w.heap.size → (Instr.entry (.pointer (some ⟨r, 0, none⟩))).run Try.prog w' = .ok (.tuple #[.string x, .int .i64 c]) w' → wpList Try.prog ops Q rest (a.put o.dst (.tuple #[.bool true, .string x, .int .i64 c])) w') :
    wpList Try.prog ops Q (o :: rest) a w :=
  wpList_next_ranges w hg it hop 9 strK (plainElem Try.prog 3) Value.string (Value.int .i64) (fun key kl hkey => by obtain ⟨x, rfl, _⟩ := keyOf_str_inv hkey; exact ⟨x, rfl⟩) (fun v y hv => by obtain ⟨c, rfl, _⟩ := plainElem_int_inv Try.underlying3 hv; exact ⟨c, rfl⟩)
    b r n D left cnt hit h hDone (fun x c kl y w' cnt' hkey hlk hv hat hrg hlt hgr hsz hen => by
      obtain ⟨x', ex, rfl, hwx⟩ := keyOf_str_inv hkey
      cases ex
      obtain ⟨c', ec, rfl, hwc⟩ := plainElem_int_inv Try.underlying3 hv
      cases ec
      exact hMore x c w' cnt' hwx hlk hat hrg hlt hgr hsz hen)
abbrev RG (w : World) (mb r m : Nat) (D : DataW Nat) (left : Lit → Bool) (cnt : Nat) : Prop := w.ranges Try.prog 9 (plainElem Try.prog 3) mb r m D left cnt
theorem RG.frame {w w' : World} {mb r m : Nat} {D : DataW Nat} {left : Lit → Bool} {cnt : Nat} {S : Nat → Prop} (h : RG w mb r m D left cnt) (hf : Fr S w w') (h1 : ¬ S mb) (h2 : ¬ S r) : RG w' mb r m D left cnt := by
  have k1 := World.ranges.owns h |>.lt
  have k2 := World.ranges.lt h
  obtain ⟨es, clock, since, seen, c0, hb, F, hs, hD, hr, rest⟩ := h
  exact ⟨es, clock, since, seen, c0, (hf.block mb k1 h1).trans hb, F, hs, hD, (hf.block r k2 h2).trans hr, rest⟩
/-- the blocks of a range loop are neither the queue's nor the row's -/
theorem RG.ne {w : World} {mb r m b base : Nat} {D : DataW Nat} {left : Lit → Bool} {cnt : Nat} {v mp : Value} {l : List Item} (h : RG w mb r m D left cnt) (hp : Hp w b base v l mp) : (mb ≠ b ∧ v.ownBlock ≠ some mb) ∧ r ≠ b ∧ v.ownBlock ≠ some r := by
  obtain ⟨es, clock, since, seen, c0, hb, F, hs, hD, hr, rest⟩ := h
  have hblk := hp.blk
  have hrow : ∀ j o, w.heap[j]? = some o → v.ownBlock = some j → ∃ cs t fr, o = .cells cs t fr := fun j o ho hj => by
    rcases hp.own.2 with ⟨rfl, _⟩ | ⟨g, cap, cur, rfl, _, hh, _⟩
    · simp [Value.ownBlock] at hj
    · simp [Value.ownBlock] at hj; subst hj; rw [hh] at ho; cases ho; exact ⟨_, _, _, rfl⟩
  refine ⟨⟨fun e => ?_, fun e => ?_⟩, fun e => ?_, fun e => ?_⟩
  · rw [e, hblk] at hb; cases hb
  · obtain ⟨_, _, _, e'⟩ := hrow _ _ hb e; cases e'
  · rw [e, hblk] at hr; cases hr
  · obtain ⟨_, _, _, e'⟩ := hrow _ _ hr e; cases e'
/-- what clean's loop keeps -/
structure CleanR (w wr : World) (b mb r m : Nat) (D : DataW Nat) (L : List Item) (left : Lit → Bool) (cnt : Nat) (v : Value) (l : List Item) : Prop where
  rg : RG wr mb r m D left cnt
  hp : Hp wr b 0 v l (.map (some mb))
  num : l.length + cnt ≤ L.length
  ho : HeapO l
  all : ∀ x ∈ L, left (klit x.key) = true ∨ x ∈ l
  sub : ∀ x ∈ l, x ∈ L
  fr : Fr (fun k => k = b) w wr
  new : ∀ g, v.ownBlock = some g → w.heap.size ≤ g
theorem clean_step {w wr w1 w2 : World} {b mb r m cnt cnt1 : Nat} {D : DataW Nat} {L : List Item} {left : Lit → Bool} {v v2 : Value} {l : List Item} {k : ByteArray} {c : Int} (h : CleanR w wr b mb r m D L left cnt v l) (hag : Agree D L) (hri : Rising L) (hr : w.heap.size ≤ r)
    (hat : ∀ zd, D.atKey (klit k) zd = zlit c) (h1 : RG w1 mb r m D (fun z => left z && !z.sameKey (klit k)) cnt1) (hlt : cnt1 < cnt) (hg1 : wr.grownBy w1 (some r))
    (hp2 : Hp w2 b 0 v2 (pushL l ⟨k, c⟩) (.map (some mb))) (hf2 : Fr (fun j => j = b ∨ v.ownBlock = some j) w1 w2) (hn2 : ∀ g, v2.ownBlock = some g → v.ownBlock = some g ∨ w1.heap.size ≤ g) :
    CleanR w w2 b mb r m D L (fun z => left z && !z.sameKey (klit k)) cnt1 v2 (pushL l ⟨k, c⟩) := by
  obtain ⟨⟨n1, n2⟩, n3, n4⟩ := h.rg.ne h.hp
  have hperm := pushL_perm l ⟨k, c⟩
  have hf1 : Fr (fun j => j = r) wr w1 := .of_grown hg1 (by rintro j e; cases e; rfl)
  have hc : look L k = c := by
    have := hag.at' k
    rw [hat] at this
    unfold zlit at this
    injection this with this
    injection this with this
    exact (by omega)
  have hne : look L k ≠ 0 := by
    have := Maps.has_true_of_atKey hat
    rw [hag.has] at this
    simpa using this
  have hin : (⟨k, c⟩ : Item) ∈ L := by have := look_mem hne; rw [hc] at this; exact this
  refine ⟨h1.frame hf2 (by rintro (e | e); exact n1 e; exact n2 e) (by rintro (e | e); exact n3 e; exact n4 e), hp2, ?_, pushL_heap _ _ h.ho, fun x hx => ?_, fun x hx => ?_, ?_, fun g hg => ?_⟩
  · have := hperm.length_eq
    have := h.num
    simp at *
    omega
  · rcases h.all x hx with e | e
    · by_cases hk : x.key = k
      · right
        refine hperm.mem_iff.2 (List.mem_cons.2 (.inl ?_))
        have hl := look_of_mem hri.keys hx
        cases x with
        | mk xk xa =>
          simp only at hk hl
          subst hk
          rw [← hc, hl]
      · left
        simp only [e, Bool.true_and, Bool.not_eq_true']
        exact Maps.sameKey_ne (klit_inj hk)
    · exact .inr (hperm.mem_iff.2 (List.mem_cons_of_mem _ e))
  · rcases List.mem_cons.1 (hperm.mem_iff.1 hx) with rfl | e
    · exact hin
    · exact h.sub x e
  · exact (h.fr.trans hf1 (by rintro j rfl; exact .inr hr)).trans hf2 (by rintro j (e | e); exact .inl e; exact .inr (h.new j e))
  · rcases hn2 g hg with e | e
    · exact h.new g e
    · have := h.fr.size; have := hf1.size; omega
theorem clean_start {w w0 : World} {b : Nat} {v : Value} {l : List Item} {mb m : Nat} {D : DataW Nat} {L : List Item} (hp : Hp w b 0 v l (.map (some mb))) (hag : Agree D L) (hri : Rising L)
    (hrg : RG w0 mb w.heap.size m D (Maps.has D) (Maps.size D)) (hg : (w.setCell ⟨b, 0, none⟩ (.slice none 0 0)).grownBy w0 none) : CleanR w w0 b mb w.heap.size m D L (Maps.has D) (Maps.size D) (.slice none 0 0) [] := by
  have hb := blk_lt hp.blk
  have hs : (w.setCell ⟨b, 0, none⟩ (.slice none 0 0)).heap.size = w.heap.size := by simp [World.setCell]
  have hf0 : Fr (fun k => k = b) w (w.setCell ⟨b, 0, none⟩ (.slice none 0 0)) := ⟨rfl, rfl, rfl, by omega, fun k _ hne => Below.heap_setCell _ _ _ _ hne⟩
  refine ⟨hrg, ⟨?_, ⟨rfl, .inl ⟨rfl, rfl⟩⟩⟩, by rw [hag.size]; simp, fun j _ => leO_none _, fun x hx => ?_, by simp, hf0.trans (.of_grown (S := fun _ => False) hg (by simp)) (fun _ f => f.elim), by simp [Value.ownBlock]⟩
  · rw [hg.block b (by omega) (by simp), blk_set hp.blk]; rfl
  · left
    rw [hag.has, decide_eq_true_eq, look_of_mem hri.keys hx]
    have := hri.pos x hx
    omega
set_option maxRecDepth 100000 in
set_option maxHeartbeats 4000000 in
theorem clean20 (b N : Nat) (v : Value) (l : List Item) (mb m : Nat) (D : DataW Nat) (L : List Item) (w : World) (hN : N ≤ 1000000) (hp : Hp w b 0 v l (.map (some mb))) (om : OM w mb m D) (hne : mb ≠ b) (hmN : m ≤ N) (hag : Agree D L) (hri : Rising L) (hfit : ∀ x ∈ L, x.key.size ≤ maxLen) :
    Calls Try.prog 20 #[.pointer (some ⟨b, 0, none⟩)] w fun e w' =>
      NoRes e ∧ ∃ v' l', Qd w' b N v' l' mb m D L ∧ Fr (fun k => k = b) w w' ∧ ∀ g, v'.ownBlock = some g → w.heap.size ≤ g := by
  have c0 := blk_cell (i := 0) hp.blk
  have c2 := blk_cell (i := 2) hp.blk
  have f0 := blk_free (i := 0) hp.blk
  have b2 : (w.setCell ⟨b, 0, none⟩ (.slice none 0 0)).cell? ⟨b, 2, none⟩ = some (.map (some mb)) := by
    rw [blk_cell (i := 2) (blk_set hp.blk _)]; rfl
  simp only [List.getElem?_toArray, List.getElem?_cons_zero, List.getElem?_cons_succ] at c0 c2
  have blt := blk_lt hp.blk
  have OM1 := Lib.hid (om.setCell (a := ⟨b, 0, none⟩) hne (.slice none 0 0))
  have hLm : L.length ≤ N := by have := om.size_le; have := hag.size; omega
  have HP := Lib.hid hp
  have HAG := Lib.hid hag
  have HRI := Lib.hid hri
  have HFIT := Lib.hid hfit
  clear hp om hag hri hfit hne
  go_enter Try.func20, Try.ntmps20
  go_wp2_with (first
    | (at_range; (refine wpList_range_own _ rfl _ 52 rfl 9 3 strK mapT (plainElem Try.prog 3) mb m D rfl OM1.out ?_); intro w0 hrg0 hg0 hs0)
    | fail)
  go_frame
  have hsz : (w.setCell ⟨b, 0, none⟩ (.slice none 0 0)).heap.size = w.heap.size := by simp [World.setCell]
  rw [hsz] at hrg0 hs0 ⊢
  have CS := Lib.hid (clean_start HP.out HAG.out HRI.out hrg0 hg0)
  clear hrg0 hg0 b2 c0 c2 f0
  go_loopw [2, 3] (fun _ _ wr => ∃ left cnt v' l', CleanR w wr b mb w.heap.size m D L left cnt v' l') (fun _ _ wr => wr.rangeLeft mb w.heap.size)
  case atStart => exact ⟨_, _, _, _, CS.out⟩
  case round =>
    obtain ⟨left, cnt, v', l', h⟩ := hrel
    have hrg := h.rg
    have HR := Lib.hid h
    clear h
    go_wp2_with (first
      | (at_next; (refine wpList_next_si rfl _ rfl mb w.heap.size m D left cnt rfl hrg ?_ ?_))
      | fail)
    · intro hc0 hl0
      have HL0 := Lib.hid hl0
      clear hl0 hc0
      go_wp2_with fail
      go_end0
      obtain ⟨h1, h2, h3, h4, h5, h6, h7, h8⟩ := HR.out
      have hin : ∀ x ∈ l', x ∈ L := h6
      exact ⟨rfl, v', l', ⟨h2, h1.owns, hmN, by omega, HAG.out, HRI.out, h4, fun x hx => (h5 x hx).resolve_left (by rw [HL0.out]; simp), fun x hx => ⟨HRI.out.pos x (hin x hx), HFIT.out x (hin x hx)⟩⟩, h7, h8⟩
    · intro x c w1 cnt1 hx hlx hat hrg1 hlt hg1 hs1 hen
      obtain ⟨_, n3, n4⟩ := RG.ne HR.out.rg HR.out.hp
      have hp1 : Hp w1 b 0 v' l' (.map (some mb)) := HR.out.hp.frame (S := fun j => j = w.heap.size) (.of_grown hg1 (by rintro j e; cases e; rfl)) (fun e => n3 e.symm) (fun g hg e => n4 (by rw [hg, e]))
      have PU := Lib.hid (push19 b 0 v' (.map (some mb)) l' ⟨x, c⟩ w1 (by have := HR.out.num; omega) hp1 (Nat.zero_le _))
      have HRG1 := Lib.hid hrg1
      have HG1 := Lib.hid hg1
      have HAT := Lib.hid hat
      clear hrg1 hg1 hat hlx n3 n4 hp1
      go_wp2_with fail
      with_reducible refine PU.out.mono ?_
      rintro e w2 ⟨rfl, v2, hp2, hf2, hn2⟩
      have ST := Lib.hid (clean_step HR.out HAG.out HRI.out (Nat.le_refl _) HAT.out HRG1.out hlt HG1.out hp2 hf2 hn2)
      clear hp2 hf2 hn2
      go_wp2_with fail
      go_roundw
      case rel => exact ⟨_, _, _, _, ST.out⟩
      case measure => rw [World.ranges.left_eq ST.out.rg, World.ranges.left_eq HR.out.rg]; omega
end Go.Proofs.Ytmbjkkoennadkaa
