/-
  Laws and contracts for the statement TopExpired.
-/
import Derived.Test.YtbikkioipamlmaaGreatDoorX17
import Derived.Test.YtbikkioipamlmaaGreatDoorX23
open Go.Lib (hid)
open Go.Proofs.Tryz (prog)
set_option linter.unusedVariables false
set_option linter.unusedSimpArgs false
set_option maxRecDepth 100000
set_option maxHeartbeats 20000000
namespace Go.Proofs.YtbikkioipamlmaaGreatDoor.Q18
open Go.Maps Go.RowKit
theorem keyOf_str_inv {key : Value} {kl : Lit} (h : keyOf prog 9 key = some kl) : ∃ s : ByteArray, key = .string s /\ kl = klit s /\ s.size <= maxLen := by
  cases key <;> simp [keyOf, Tryz.underlying9, mapKey] at h
  obtain ⟨h1, h2⟩ := h
  exact ⟨_, rfl, h2.symm, h1⟩
theorem wpList_next_si {w : World} {ops : Array Oper} {rest : List Oper} {o : Oper} {a : Act} {Q : Exit -> Act -> World -> Prop} (hg : o.guard = none) (it : Operand) (hop : o.op = Op.next it false)
    (b r n : Nat) (D : DataW Nat) (left : Lit -> Bool) (cnt : Nat) (hit : a.eval it = .pointer (some ⟨r, 0, none⟩)) (h : w.ranges prog 9 (plainElem prog 3) b r n D left cnt)
    (hDone : cnt = 0 -> (∀ kl, left kl = false) -> wpList prog ops Q rest (a.put o.dst (.tuple #[.bool false])) w)
    (hMore : ∀ (x : ByteArray) (c : Int) (w' : World) (cnt' : Nat), x.size <= maxLen -> left (klit x) = true -> (∀ zd, D.atKey (klit x) zd = zlit c) ->
      w'.ranges prog 9 (plainElem prog 3) b r n D (fun z => left z && !z.sameKey (klit x)) cnt' -> cnt' < cnt ->
      w.grownBy w' (some r) -> w'.heap.size = w.heap.size -> (Instr.entry (.pointer (some ⟨r, 0, none⟩))).run prog w' = .ok (.tuple #[.string x, .int .i64 c]) w' -> wpList prog ops Q rest (a.put o.dst (.tuple #[.bool true, .string x, .int .i64 c])) w') :
    wpList prog ops Q (o :: rest) a w :=
  wpList_next_ranges w hg it hop 9 strK (plainElem prog 3) Value.string (Value.int .i64) (fun key kl hkey => by obtain ⟨x, rfl, _⟩ := keyOf_str_inv hkey; exact ⟨x, rfl⟩) (fun v y hv => by obtain ⟨c, rfl, _⟩ := plainElem_int_inv Tryz.underlying3 hv; exact ⟨c, rfl⟩)
    b r n D left cnt hit h hDone (fun x c kl y w' cnt' hkey hlk hv hat hrg hlt hgr hsz hen => by
      obtain ⟨x', ex, rfl, hwx⟩ := keyOf_str_inv hkey
      cases ex
      obtain ⟨c', ec, rfl, hwc⟩ := plainElem_int_inv Tryz.underlying3 hv
      cases ec
      exact hMore x c w' cnt' hwx hlk hat hrg hlt hgr hsz hen)
abbrev RG (w : World) (mb r m : Nat) (D : DataW Nat) (left : Lit -> Bool) (cnt : Nat) : Prop := w.ranges prog 9 (plainElem prog 3) mb r m D left cnt
theorem RG.frame {w w' : World} {mb r m : Nat} {D : DataW Nat} {left : Lit -> Bool} {cnt : Nat} {S : Nat -> Prop} (h : RG w mb r m D left cnt) (hf : Fr S w w') (h1 : ¬ S mb) (h2 : ¬ S r) : RG w' mb r m D left cnt := by
  have k1 := World.ranges.owns h |>.lt
  have k2 := World.ranges.lt h
  obtain ⟨es, clock, since, seen, c0, hb, F, hs, hD, hr, rest⟩ := h
  exact ⟨es, clock, since, seen, c0, (hf.block mb k1 h1).trans hb, F, hs, hD, (hf.block r k2 h2).trans hr, rest⟩
theorem RG.ne {w : World} {mb r m b base : Nat} {D : DataW Nat} {left : Lit -> Bool} {cnt : Nat} {v mp : Value} {l : List Item} (h : RG w mb r m D left cnt) (hp : Hp w b base v l mp) : (mb ≠ b /\ v.ownBlock ≠ some mb) /\ r ≠ b /\ v.ownBlock ≠ some r := by
  obtain ⟨es, clock, since, seen, c0, hb, F, hs, hD, hr, rest⟩ := h
  have hblk := hp.blk
  have hrow : ∀ j o, w.heap[j]? = some o -> v.ownBlock = some j -> ∃ cs t fr, o = .cells cs t fr := fun j o ho hj => by
    rcases hp.own.2 with ⟨rfl, _⟩ | ⟨g, cap, cur, rfl, _, hh, _⟩
    · simp [Value.ownBlock] at hj
    · simp [Value.ownBlock] at hj; subst hj; rw [hh] at ho; cases ho; exact ⟨_, _, _, rfl⟩
  refine ⟨⟨fun e => ?_, fun e => ?_⟩, fun e => ?_, fun e => ?_⟩
  · rw [e, hblk] at hb; cases hb
  · obtain ⟨_, _, _, e'⟩ := hrow _ _ hb e; cases e'
  · rw [e, hblk] at hr; cases hr
  · obtain ⟨_, _, _, e'⟩ := hrow _ _ hr e; cases e'
structure CleanR (w wr : World) (b mb r m : Nat) (D : DataW Nat) (L : List Item) (left : Lit -> Bool) (cnt : Nat) (v : Value) (l : List Item) : Prop where
  rg : RG wr mb r m D left cnt
  hp : Hp wr b 0 v l (.map (some mb))
  num : l.length + cnt <= L.length
  ho : HeapO l
  all : ∀ x ∈ L, left (klit x.key) = true \/ x ∈ l
  sub : ∀ x ∈ l, x ∈ L
  fr : Fr (fun k => k = b) w wr
  new : ∀ g, v.ownBlock = some g -> w.heap.size <= g
theorem clean_step {w wr w1 w2 : World} {b mb r m cnt cnt1 : Nat} {D : DataW Nat} {L : List Item} {left : Lit -> Bool} {v v2 : Value} {l : List Item} {k : ByteArray} {c : Int} (h : CleanR w wr b mb r m D L left cnt v l) (hag : Agree D L) (hri : Rising L) (hr : w.heap.size <= r)
    (hat : ∀ zd, D.atKey (klit k) zd = zlit c) (h1 : RG w1 mb r m D (fun z => left z && !z.sameKey (klit k)) cnt1) (hlt : cnt1 < cnt) (hg1 : wr.grownBy w1 (some r))
    (hp2 : Hp w2 b 0 v2 (pushL l ⟨k, c⟩) (.map (some mb))) (hf2 : Fr (fun j => j = b \/ v.ownBlock = some j) w1 w2) (hn2 : ∀ g, v2.ownBlock = some g -> v.ownBlock = some g \/ w1.heap.size <= g) :
    CleanR w w2 b mb r m D L (fun z => left z && !z.sameKey (klit k)) cnt1 v2 (pushL l ⟨k, c⟩) := by
  obtain ⟨⟨n1, n2⟩, n3, n4⟩ := h.rg.ne h.hp
  have hperm := pushL_perm l ⟨k, c⟩
  have hf1 : Fr (fun j => j = r) wr w1 := .of_grown hg1 (by rintro j e; cases e; rfl)
  have hc : look L k = c := by
    have := hag.at' k
    rw [hat] at this
    unfold zlit at this
    injection this with this
    injection this with this
    exact (by omega)
  have hne : look L k ≠ 0 := by
    have := Maps.has_true_of_atKey hat
    rw [hag.has] at this
    simpa using this
  have hin : (⟨k, c⟩ : Item) ∈ L := by have := look_mem hne; rw [hc] at this; exact this
  refine ⟨h1.frame hf2 (by rintro (e | e); exact n1 e; exact n2 e) (by rintro (e | e); exact n3 e; exact n4 e), hp2, ?_, pushL_heap _ _ h.ho, fun x hx => ?_, fun x hx => ?_, ?_, fun g hg => ?_⟩
  · have := hperm.length_eq
    have := h.num
    simp at *
    omega
  · rcases h.all x hx with e | e
    · by_cases hk : x.key = k
      · right
        refine hperm.mem_iff.2 (List.mem_cons.2 (.inl ?_))
        have hl := look_of_mem hri.keys hx
        cases x with
        | mk xk xa =>
          simp only at hk hl
          subst hk
          rw [<- hc, hl]
      · left
        simp only [e, Bool.true_and, Bool.not_eq_true']
        exact Maps.sameKey_ne (klit_inj hk)
    · exact .inr (hperm.mem_iff.2 (List.mem_cons_of_mem _ e))
  · rcases List.mem_cons.1 (hperm.mem_iff.1 hx) with rfl | e
    · exact hin
    · exact h.sub x e
  · exact (h.fr.trans hf1 (by rintro j rfl; exact .inr hr)).trans hf2 (by rintro j (e | e); exact .inl e; exact .inr (h.new j e))
  · rcases hn2 g hg with e | e
    · exact h.new g e
    · have := h.fr.size; have := hf1.size; omega
theorem clean_start {w w0 : World} {b : Nat} {v : Value} {l : List Item} {mb m : Nat} {D : DataW Nat} {L : List Item} (hp : Hp w b 0 v l (.map (some mb))) (hag : Agree D L) (hri : Rising L)
    (hrg : RG w0 mb w.heap.size m D (Maps.has D) (Maps.size D)) (hg : (w.setCell ⟨b, 0, none⟩ (.slice none 0 0)).grownBy w0 none) : CleanR w w0 b mb w.heap.size m D L (Maps.has D) (Maps.size D) (.slice none 0 0) [] := by
  have hb := lB hp.blk
  have hs : (w.setCell ⟨b, 0, none⟩ (.slice none 0 0)).heap.size = w.heap.size := by simp [World.setCell]
  have hf0 : Fr (fun k => k = b) w (w.setCell ⟨b, 0, none⟩ (.slice none 0 0)) := ⟨rfl, rfl, rfl, by omega, fun k _ hne => Below.heap_setCell _ _ _ _ hne⟩
  refine ⟨hrg, ⟨?_, ⟨rfl, .inl ⟨rfl, rfl⟩⟩⟩, by rw [hag.size]; simp, fun j _ => leO_none _, fun x hx => ?_, by simp, hf0.trans (.of_grown (S := fun _ => False) hg (by simp)) (fun _ f => f.elim), by simp [Value.ownBlock]⟩
  · rw [hg.block b (by omega) (by simp), uB hp.blk]; rfl
  · left
    rw [hag.has, decide_eq_true_eq, look_of_mem hri.keys hx]
    have := hri.pos x hx
    omega
theorem clean20 (b N : Nat) (v : Value) (l : List Item) (mb m : Nat) (D : DataW Nat) (L : List Item) (w : World) (hN : N <= 1000000) (hp : Hp w b 0 v l (.map (some mb))) (om : OM w mb m D) (hne : mb ≠ b) (hmN : m <= N) (hag : Agree D L) (hri : Rising L) (hfit : ∀ x ∈ L, x.key.size <= maxLen) :
    Calls prog 300 #[.pointer (some ⟨b, 0, none⟩)] w fun e w' =>
      NoRes e /\ ∃ v' l', Qd w' b N v' l' mb m D L /\ Fr (fun k => k = b) w w' /\ ∀ g, v'.ownBlock = some g -> w.heap.size <= g := by
  have c0 := qB (i := 0) hp.blk
  have c2 := qB (i := 2) hp.blk
  have f0 := zB (i := 0) hp.blk
  have b2 : (w.setCell ⟨b, 0, none⟩ (.slice none 0 0)).cell? ⟨b, 2, none⟩ = some (.map (some mb)) := by
    rw [qB (i := 2) (uB hp.blk _)]; rfl
  simp only [List.getElem?_toArray, List.getElem?_cons_zero, List.getElem?_cons_succ] at c0 c2
  have blt := lB hp.blk
  have OM1 := hid (om.setCell (a := ⟨b, 0, none⟩) hne (.slice none 0 0))
  have hLm : L.length <= N := by have := om.size_le; have := hag.size; omega
  have HP := hid hp
  have HAG := hid hag
  have HRI := hid hri
  have HFIT := hid hfit
  clear hp om hag hri hfit hne
  go_enter Tryz.func300, Tryz.ntmps300
  go_wp2_with (first
    | (at_range; (refine wpList_range_own _ rfl _ 342 rfl 9 3 strK mapT (plainElem prog 3) mb m D rfl OM1.out ?_); intro w0 hrg0 hg0 hs0)
    | fail)
  go_frame
  have hsz : (w.setCell ⟨b, 0, none⟩ (.slice none 0 0)).heap.size = w.heap.size := by simp [World.setCell]
  rw [hsz] at hrg0 hs0 ⊢
  have CS := hid (clean_start HP.out HAG.out HRI.out hrg0 hg0)
  clear hrg0 hg0 b2 c0 c2 f0
  go_loopw [2, 3] (fun _ _ wr => ∃ left cnt v' l', CleanR w wr b mb w.heap.size m D L left cnt v' l') (fun _ _ wr => wr.rangeLeft mb w.heap.size)
  case atStart => exact ⟨_, _, _, _, CS.out⟩
  case round =>
    obtain ⟨left, cnt, v', l', h⟩ := hrel
    have hrg := h.rg
    have HR := hid h
    clear h
    go_wp2_with (first
      | (at_next; (refine wpList_next_si rfl _ rfl mb w.heap.size m D left cnt rfl hrg ?_ ?_))
      | fail)
    · intro hc0 hl0
      have HL0 := hid hl0
      clear hl0 hc0
      go_wp2_with fail
      go_end0
      obtain ⟨h1, h2, h3, h4, h5, h6, h7, h8⟩ := HR.out
      have hin : ∀ x ∈ l', x ∈ L := h6
      exact ⟨rfl, v', l', ⟨h2, h1.owns, hmN, by omega, HAG.out, HRI.out, h4, fun x hx => (h5 x hx).resolve_left (by rw [HL0.out]; simp), fun x hx => ⟨HRI.out.pos x (hin x hx), HFIT.out x (hin x hx)⟩⟩, h7, h8⟩
    · intro x c w1 cnt1 hx hlx hat hrg1 hlt hg1 hs1 hen
      obtain ⟨_, n3, n4⟩ := RG.ne HR.out.rg HR.out.hp
      have hp1 : Hp w1 b 0 v' l' (.map (some mb)) := HR.out.hp.frame (S := fun j => j = w.heap.size) (.of_grown hg1 (by rintro j e; cases e; rfl)) (fun e => n3 e.symm) (fun g hg e => n4 (by rw [hg, e]))
      have PU := hid (push19 b 0 v' (.map (some mb)) l' ⟨x, c⟩ w1 (by have := HR.out.num; omega) hp1 (Nat.zero_le _))
      have HRG1 := hid hrg1
      have HG1 := hid hg1
      have HAT := hid hat
      clear hrg1 hg1 hat hlx n3 n4 hp1
      go_wp2_with fail
      with_reducible refine PU.out.mono ?_
      rintro e w2 ⟨rfl, v2, hp2, hf2, hn2⟩
      have ST := hid (clean_step HR.out HAG.out HRI.out (Nat.le_refl _) HAT.out HRG1.out hlt HG1.out hp2 hf2 hn2)
      clear hp2 hf2 hn2
      go_wp2_with fail
      go_roundw
      case rel => exact ⟨_, _, _, _, ST.out⟩
      case measure => rw [World.ranges.left_eq ST.out.rg, World.ranges.left_eq HR.out.rg]; omega
theorem put_store {w w2 : World} {b N : Nat} {v : Value} {l : List Item} {mb m : Nat} {D : DataW Nat} {L : List Item} {k : ByteArray} {a : Int} (q : Qd w b N v l mb m D (remL L k)) (ha : 1 <= a)
    (hg : w.grownBy w2 (some mb)) :
    Hp w2 b 0 v l (.map (some mb)) /\ Agree (D.put (klit k) (zlit a)) (putL L k a) /\ Rising (putL L k a) /\ Fr (fun j => j = mb) w w2 := by
  have hf : Fr (fun j => j = mb) w w2 := .of_grown hg (by rintro j e; cases e; rfl)
  obtain ⟨h1, h2⟩ := q.mb_ne
  have hk : ∀ y ∈ remL L k, y.key ≠ k := fun y hy => (mem_remL.1 hy).2
  have e : putL L k a = insL (remL L k) ⟨k, a⟩ := by unfold putL; rw [if_neg (by omega)]
  rw [e]
  exact ⟨q.hp.frame hf (fun e => h1 e.symm) (fun g hg e => h2 g hg e), q.ag.put (q.om.tidy strK) ⟨k, a⟩ ha hk, q.ri.ins ⟨k, a⟩ hk ha, hf⟩
theorem put_pushed {w w2 w3 : World} {b N : Nat} {v v3 : Value} {l : List Item} {mb m : Nat} {D : DataW Nat} {L : List Item} {k : ByteArray} {a : Int} (q : Qd w b N v l mb m D (remL L k)) (ha : 1 <= a) (hk : k.size <= maxLen)
    (ho : OM w2 mb (m + 1) (D.put (klit k) (zlit a))) (hg : w.grownBy w2 (some mb)) (hp : Hp w3 b 0 v3 (pushL l ⟨k, a⟩) (.map (some mb))) (hf : Fr (fun j => j = b \/ v.ownBlock = some j) w2 w3) :
    Qd w3 b (N + 1) v3 (pushL l ⟨k, a⟩) mb (m + 1) (D.put (klit k) (zlit a)) (putL L k a) /\ Fr (foot b v mb) w w3 := by
  obtain ⟨_, h2, h3, h4⟩ := put_store q ha hg
  obtain ⟨n1, n2⟩ := q.mb_ne
  have hperm := pushL_perm l ⟨k, a⟩
  have e : putL L k a = insL (remL L k) ⟨k, a⟩ := by unfold putL; rw [if_neg (by omega)]
  refine ⟨⟨hp, ho.frame hf (by rintro (e | e); exact n1 e; exact n2 _ e rfl), by have := q.mN; omega, ?_, h2, h3, pushL_heap _ _ q.ho, fun x hx => ?_, fun x hx => ?_⟩, ?_⟩
  · have := hperm.length_eq
    have := q.lN
    simp at *
    omega
  · rw [e] at hx
    refine hperm.mem_iff.2 (List.mem_cons.2 ?_)
    exact (mem_insL.1 hx).imp id (q.sub x)
  · rcases List.mem_cons.1 (hperm.mem_iff.1 hx) with rfl | h
    · exact ⟨ha, hk⟩
    · exact q.fit x h
  · exact (h4.mono (T := foot b v mb) (fun j _ e => .inr (.inr e))).trans hf (fun j e => .inl (e.imp id .inl))
theorem put8 (b N : Nat) (v : Value) (l : List Item) (mb m : Nat) (D : DataW Nat) (L : List Item) (k : ByteArray) (a : Int) (w : World) (hN : N + 1 <= 1000000) (hk : k.size <= maxLen) (hwf : (Lit.int .i64 a).wf = true) (h : Qd w b N v l mb m D L) :
    Calls prog 247 #[.pointer (some ⟨b, 0, none⟩), .string k, .int .i64 a] w fun e w' =>
      NoRes e /\ ∃ v' l' m' D', Qd w' b (N + 1) v' l' mb m' D' (putL L k a) /\ Fr (foot b v mb) w w' /\ ∀ g, v'.ownBlock = some g -> v.ownBlock = some g \/ w.heap.size <= g := by
  have c2 := qB (i := 2) h.hp.blk
  simp only [List.getElem?_toArray, List.getElem?_cons_zero, List.getElem?_cons_succ] at c2
  have OMH := hid h.om
  have Q := hid h
  have HK := hid (keyK hk)
  have HW := hid hwf
  clear h hwf
  by_cases ha : a < 1
  · go_enter Tryz.func247, Tryz.ntmps247
    go_wp2_with (first | (at_delete; (refine wpList_delete_own _ rfl _ _ 342 9 rfl 3 strK mapT (plainElem prog 3) mb m D rfl OMH.out _ (klit k) rfl HK.out ?_); intro w1 hown1 hturn1) | fail)
    refine bodyPost_ret (results_none rfl _ _ _) rfl ?_
    obtain ⟨q1, hf⟩ := drop_queue Q.out k hown1 hturn1
    refine ⟨rfl, v, l, m, D.del (klit k), ?_, hf.mono (fun j _ e => .inr (.inr e)), fun g hg => .inl hg⟩
    have e : putL L k a = remL L k := by unfold putL; rw [if_pos ha]
    rw [e]
    exact ⟨q1.hp, q1.om, by have := q1.mN; omega, by have := q1.lN; omega, q1.ag, q1.ri, q1.ho, q1.sub, q1.fit⟩
  · go_enter Tryz.func247, Tryz.ntmps247
    go_wp2_with (first | (at_delete; (refine wpList_delete_own _ rfl _ _ 342 9 rfl 3 strK mapT (plainElem prog 3) mb m D rfl OMH.out _ (klit k) rfl HK.out ?_); intro w1 hown1 hturn1; refine Stop.out ?_) | fail)
    refine Stop.of ?_
    have D1 := hid (drop_queue Q.out k hown1 hturn1)
    have c2 := qB (i := 2) D1.out.1.hp.blk
    simp only [List.getElem?_toArray, List.getElem?_cons_zero, List.getElem?_cons_succ] at c2
    have OM1 := hid hown1
    have hm : m < maxLen := by have := Q.out.mN; unfold maxLen; omega
    clear hown1 hturn1
    go_wp2_with (first | (at_mapUpdate; (refine wpList_mapUpdate_own _ rfl _ _ _ 342 rfl 9 3 strK mapT _ mb m _ rfl OM1.out hm _ _ _ rfl rfl HK.out _ [] (valE HW.out) ?_); intro w2 hown2 hgrow2; refine Stop.out ?_) | fail)
    refine Stop.of ?_
    have ha' : 1 <= a := by omega
    have S2 := hid (put_store (L := L) D1.out.1 ha' hgrow2)
    have OM2 := hid hown2
    have HG2 := hid hgrow2
    have blt := lB S2.out.1.blk
    have PU := hid (push19 b 0 v (.map (some mb)) l ⟨k, a⟩ w2 (by have := Q.out.lN; omega) S2.out.1 (Nat.zero_le _))
    clear hown2 hgrow2 c2
    go_wp2_with fail
    with_reducible refine PU.out.mono ?_
    rintro e w3 ⟨rfl, v3, hp3, hf3, hn3⟩
    have Q3 := hid (put_pushed D1.out.1 ha' hk OM2.out HG2.out hp3 hf3)
    have HN3 := hid hn3
    clear hp3 hf3 hn3
    obtain ⟨g3, cap3, hv3⟩ : ∃ g cap, v3 = .slice (some ⟨g, 0, none⟩) (pushL l ⟨k, a⟩).length cap := by
      rcases Q3.out.1.form with ⟨h, _⟩ | h
      · have := (pushL_perm l ⟨k, a⟩).length_eq
        rw [h] at this; simp at this
      · exact h
    subst hv3
    have c0 := qB (i := 0) Q3.out.1.hp.blk
    have c2 := qB (i := 2) Q3.out.1.hp.blk
    simp only [List.getElem?_toArray, List.getElem?_cons_zero, List.getElem?_cons_succ] at c0 c2
    have hlen := fun ty => World.ownsMap.len (w := w3.drew) Q3.out.1.om mapT ty
    have hlN := Q3.out.1.lN
    have hsN := Q3.out.1.om.size_le
    have hmN := Q3.out.1.mN
    have CL := hid (clean20 b (N + 1) _ _ mb (m + 1) _ (putL L k a) w3.drew hN (Q3.out.1.hp.below ((Below.refl _ _).drew)) Q3.out.1.om Q3.out.1.mb_ne.1 (by have := Q3.out.1.mN; omega) Q3.out.1.ag Q3.out.1.ri (fun x hx => (Q3.out.1.fit x (Q3.out.1.sub x hx)).2))
    generalize hs : Maps.size ((D.del (klit k)).put (klit k) (zlit a)) = s at *
    clear hs
    generalize hl3 : (pushL l ⟨k, a⟩).length = n3 at *
    clear hl3
    go_wp2_with fail
    go_region
    go_wp2_with fail
    all_goals
      have F3 : Fr (foot b v mb) w w3.drew := ((D1.out.2.mono (T := foot b v mb) (fun j _ e => .inr (.inr e))).trans Q3.out.2 (fun j e => .inl e)).drew
      have hs1 : w.heap.size <= w2.heap.size := Nat.le_trans D1.out.2.size S2.out.2.2.2.size
      have F3' := hid F3
      clear F3
    · with_reducible refine CL.out.mono ?_
      rintro e w4 ⟨rfl, v4, l4, q4, hf4, hn4⟩
      have F4 := hid (F3'.out.trans hf4 (fun j e => .inl (.inl e)))
      have Q4 := hid q4
      have N4 := hid hn4
      clear q4 hf4 hn4
      go_wp2_with fail
      go_end0
      exact ⟨rfl, v4, l4, m + 1, _, Q4.out, F4.out, fun g hg => .inr (Nat.le_trans F3'.out.size (N4.out g hg))⟩
    · go_end0
      exact ⟨rfl, _, _, m + 1, _, ⟨Q3.out.1.hp.below ((Below.refl _ _).drew), Q3.out.1.om, Q3.out.1.mN, Q3.out.1.lN, Q3.out.1.ag, Q3.out.1.ri, Q3.out.1.ho, Q3.out.1.sub, Q3.out.1.fit⟩, F3'.out, fun g hg => (HN3.out g hg).imp id (Nat.le_trans hs1)⟩
theorem foot_eq {b mb : Nat} {v v' : Value} (h : v'.ownBlock = v.ownBlock) : foot b v' mb = foot b v mb := by unfold foot; rw [h]
theorem qput (b N : Nat) (S : Nat -> Prop) (L : List Item) (k : ByteArray) (a : Int) (w : World) (hN : N + 1 <= 1000000) (hk : k.size <= maxLen) (hwf : (Lit.int .i64 a).wf = true) (h : QOk w b N S L) :
    Calls prog 247 #[.pointer (some ⟨b, 0, none⟩), .string k, .int .i64 a] w fun e w' =>
      e = .returned (.tuple #[]) /\ ∃ S', QOk w' b (N + 1) S' (putL L k a) /\ Fr S w w' /\ ∀ j, S' j -> S j \/ w.heap.size <= j := by
  obtain ⟨v, l, mb, m, D, q, rfl⟩ := h
  refine (put8 b N v l mb m D L k a w hN hk hwf q).mono ?_
  rintro e w' ⟨rfl, v', l', m', D', q', hf, hn⟩
  refine ⟨rfl, foot b v' mb, ⟨v', l', mb, m', D', q', rfl⟩, hf, ?_⟩
  rintro j (e | e | e)
  · exact .inl (.inl e)
  · rcases hn j e with h | h
    · exact .inl (.inr (.inl h))
    · exact .inr h
  · exact .inl (.inr (.inr e))
theorem qdue (b N : Nat) (S : Nat -> Prop) (L : List Item) (now : Int) (w : World) (hN : N <= 1000000) (h : QOk w b N S L) :
    Calls prog 148 #[.pointer (some ⟨b, 0, none⟩), .int .i64 now] w fun e w' =>
      ∃ sl, e = .returned sl /\ w'.ownsRow w.heap.size 9 1 sl (early L now).length (keysV (early L now)) /\ QOk w' b N S (late L now) /\ Fr S w w' := by
  obtain ⟨v, l, mb, m, D, q, rfl⟩ := h
  refine (due9 b N v l mb m D L now w hN q).mono ?_
  rintro e w' ⟨v', l', D', sl, rfl, hr, q', hv, hf⟩
  exact ⟨sl, rfl, hr, ⟨v', l', mb, m, D', q', (foot_eq hv).symm⟩, hf⟩
theorem qremove (b N : Nat) (S : Nat -> Prop) (L : List Item) (k : ByteArray) (hk : k.size <= maxLen) (w : World) (h : QOk w b N S L) :
    Calls prog 222 #[.pointer (some ⟨b, 0, none⟩), .string k] w fun e w' => e = .returned (.tuple #[]) /\ QOk w' b N S (remL L k) /\ Fr S w w' := remove14 b N S L k hk w h
end Go.Proofs.YtbikkioipamlmaaGreatDoor.Q18
namespace Go.Proofs.YtbikkioipamlmaaGreatDoor
open Go.Maps Go.RowKit T16
def tabP (tb : Nat) (m : Option (ByteArray × Ent)) (N : Nat) (w : World) (R : Nat -> Prop) : Prop := ∃ vn vo T, Tb w tb vn vo T /\ TI T /\ (∀ k e, Has T k e ↔ m = some (k, e)) /\ T.tot <= N /\ R = tfoot tb vn vo
theorem tabP.lt {tb : Nat} {m : Option (ByteArray × Ent)} {N : Nat} {w : World} {R : Nat -> Prop} (h : tabP tb m N w R) : ∀ j, R j -> j < w.heap.size := by
  obtain ⟨vn, vo, T, t, _, _, _, rfl⟩ := h
  exact t.lt
theorem tabP.fr {tb : Nat} {m : Option (ByteArray × Ent)} {N : Nat} {w w' : World} {R S : Nat -> Prop} (h : tabP tb m N w R) (hf : Fr S w w') (hd : ∀ j, R j -> ¬ S j) : tabP tb m N w' R := by
  obtain ⟨vn, vo, T, t, ti, hh, ht, rfl⟩ := h
  exact ⟨vn, vo, T, t.frame hf hd, ti, hh, ht, rfl⟩
def TabStp (w w' : World) (tb : Nat) (m : Option (ByteArray × Ent)) (N : Nat) (R : Nat -> Prop) : Prop := ∃ R', tabP tb m N w' R' /\ Fr R w w' /\ ∀ j, R' j -> R j \/ w.heap.size <= j
theorem tget8 (tb : Nat) (m : Option (ByteArray × Ent)) (N : Nat) (k : ByteArray) (w : World) (R : Nat -> Prop) (h : tabP tb m N w R) (hk : k.size <= 9223372036854775807) :
    Calls prog 140 #[.pointer (some ⟨tb, 0, none⟩), .string k] w fun e w' => ∃ b x, e = .returned (.tuple #[entV x, .bool b]) /\ TabStp w w' tb m N R /\ (b = true -> m = some (k, x)) /\ (b = false -> (∀ e, m ≠ some (k, e)) /\ x = ent0) := by
  obtain ⟨vn, vo, T, t, ti, hh, ht, rfl⟩ := h
  refine (get10 tb vn vo T k w t ti hk).mono ?_
  rintro e w' ⟨b, x, vo', T', rfl, t', st, gi⟩
  refine ⟨b, x, rfl, ⟨_, ⟨vn, vo', T', t', gi.ti, fun k' e' => (gi.has k' e').trans (hh k' e'), by rw [gi.tot]; exact ht, rfl⟩, st.fr, st.own⟩, fun hb => (hh k x).1 (gi.hit hb), fun hb => ⟨fun e he => (gi.miss hb).1 e ((hh k e).2 he), (gi.miss hb).2⟩⟩
theorem tset8 (tb : Nat) (m : Option (ByteArray × Ent)) (N : Nat) (k : ByteArray) (x : Ent) (w : World) (R : Nat -> Prop) (h : tabP tb m N w R) (hk : k.size <= 9223372036854775807) (hN : N <= 1000000) (hm : m = none \/ ∃ y, m = some (k, y)) :
    Calls prog 132 #[.pointer (some ⟨tb, 0, none⟩), .string k, entV x] w fun e w' => e = .returned (.tuple #[]) /\ TabStp w w' tb (some (k, x)) (N + 1) R := by
  obtain ⟨vn, vo, T, t, ti, hh, ht, rfl⟩ := h
  refine (set9 tb vn vo T k x w t ti hk (by omega)).mono ?_
  rintro e w' ⟨rfl, vn', vo', T', t', st, si⟩
  refine ⟨rfl, _, ⟨vn', vo', T', t', si.ti, fun k' e' => ?_, by rcases si.tot with ⟨_, e⟩ | ⟨_, e⟩ <;> omega, rfl⟩, st.fr, st.own⟩
  rw [si.has, hh]
  constructor
  · rintro (⟨rfl, rfl⟩ | ⟨hne, he⟩)
    · rfl
    · rcases hm with rfl | ⟨y, rfl⟩
      · cases he
      · injection he with he
        injection he with h1 h2
        exact absurd h1.symm hne
  · intro he
    injection he with he
    injection he with h1 h2
    exact .inl ⟨h1.symm, h2.symm⟩
theorem tdel8 (tb : Nat) (N : Nat) (k : ByteArray) (x : Ent) (w : World) (R : Nat -> Prop) (h : tabP tb (some (k, x)) N w R) (hk : k.size <= 9223372036854775807) :
    Calls prog 133 #[.pointer (some ⟨tb, 0, none⟩), .string k] w fun e w' => ∃ b, e = .returned (.bool b) /\ TabStp w w' tb none N R := by
  obtain ⟨vn, vo, T, t, ti, hh, ht, rfl⟩ := h
  refine (del13 tb vn vo T k w t ti hk).mono ?_
  rintro e w' ⟨b, vo', T', rfl, t', st, di⟩
  refine ⟨b, rfl, _, ⟨vn, vo', T', t', di.ti, fun k' e' => ?_, by have := di.tot; omega, rfl⟩, st.fr, st.own⟩
  rw [di.has, hh]
  constructor
  · rintro ⟨hne, he⟩
    injection he with he
    injection he with h1 h2
    exact absurd h1.symm hne
  · intro he; cases he
theorem iremove0 (sb tb N : Nat) (k : ByteArray) (w : World) (R : Nat -> Prop) (hc : w.cell? ⟨sb, 0, none⟩ = some (.pointer (some ⟨tb, 0, none⟩))) (h : tabP tb none N w R) (hk : k.size <= 9223372036854775807) :
    Calls prog 149 #[.pointer (some ⟨sb, 0, none⟩), .string k] w fun e w' => e = .returned (.tuple #[]) /\ TabStp w w' tb none N R := by
  have G := hid (tget8 tb none N k w R h hk)
  clear h
  go_enter Tryz.func149, Tryz.ntmps149
  go_wp2_with fail
  with_reducible refine G.out.mono ?_
  rintro e w1 ⟨b, x, rfl, hst, hb1, hb0⟩
  cases b with
  | true => exact absurd (hb1 rfl) (by simp)
  | false =>
    obtain rfl := (hb0 rfl).2
    have ST := hid hst
    clear hst hb1 hb0
    unfold entV ent0
    go_wp2_with fail
    refine bodyPost_ret (results_none rfl _ _ _) rfl ?_
    obtain ⟨R', h1, h2, h3⟩ := ST.out
    exact ⟨rfl, R', h1.fr (S := fun _ => False) (Fr.of_below ((Below.refl _ _).alloc (Nat.le_refl _) _)) (fun _ _ f => f), h2.alloc _, h3⟩
end Go.Proofs.YtbikkioipamlmaaGreatDoor
namespace Go.Proofs.YtbikkioipamlmaaGreatDoor
open Go.RowKit
abbrev layV (l : Lay) : Value := .agg #[.int .i64 l.id, .int .i64 l.ver, .int .i64 l.rs, .int .i64 l.rg]
structure Pk (w : World) (pb : Nat) (l : Lay) (first seq : Int) (st : List Int) (tk : Nat) (sv : Value) : Prop where
  blk : w.heap[pb]? = some (.cells #[.int .i64 l.id, .int .i64 l.ver, .int .i64 l.rs, .int .i64 l.rg, .int .i64 first, .int .i64 seq, sv, .int .i64 (tk : Int)] 386 (0, 0))
  own : Own8 (pb + 1) w sv st
  form : formB l = true
  fst : 74 <= first /\ first <= 40000
  sq : 1 <= seq /\ seq <= 281474976710655
  room : (st.length : Int) <= capD l
  tks : tk * 59 <= st.length
def pkF (pb : Nat) (sv : Value) : Nat -> Prop := fun j => j = pb \/ sv.ownBlock = some j
theorem capD_rng {l : Lay} (h : formB l = true) : 59 <= capD l /\ capD l <= 120773 := by
  obtain ⟨_, _, a, b, _⟩ := formB_rng h
  unfold capD; rw [if_pos h]; omega
theorem Pk.lt {w : World} {pb : Nat} {l : Lay} {first seq : Int} {st : List Int} {tk : Nat} {sv : Value} (h : Pk w pb l first seq st tk sv) : ∀ j, pkF pb sv j -> j < w.heap.size := by
  rintro j (rfl | hj)
  · exact lB h.blk
  · exact (h.own.own.lt j hj).2
theorem Pk.ge {w : World} {pb : Nat} {l : Lay} {first seq : Int} {st : List Int} {tk : Nat} {sv : Value} (h : Pk w pb l first seq st tk sv) : ∀ j, pkF pb sv j -> pb <= j := by
  rintro j (rfl | hj)
  · exact Nat.le_refl _
  · have := (h.own.own.lt j hj).1; omega
theorem Pk.fr {w w' : World} {pb : Nat} {l : Lay} {first seq : Int} {st : List Int} {tk : Nat} {sv : Value} {T : Nat -> Prop} (h : Pk w pb l first seq st tk sv) (hf : Fr T w w') (hd : ∀ j, pkF pb sv j -> ¬ T j) : Pk w' pb l first seq st tk sv :=
  ⟨by rw [hf.block _ (lB h.blk) (hd _ (.inl rfl))]; exact h.blk, ⟨own_fr h.own.own hf (fun g hg => hd g (.inr hg)), h.own.byt⟩, h.form, h.fst, h.sq, h.room, h.tks⟩
theorem Pk.below {w w' : World} {pb : Nat} {l : Lay} {first seq : Int} {st : List Int} {tk : Nat} {sv : Value} (h : Pk w pb l first seq st tk sv) (hb : Below w.heap.size w w') : Pk w' pb l first seq st tk sv := h.fr (Fr.of_below (S := fun _ => False) hb) (fun _ _ f => f)
theorem pnew8 (l : Lay) (slot seq : Int) (w : World) (hf : formB l = true) (h0 : 0 <= slot) (h1 : slot < l.rg) (s0 : 1 <= seq) (s1 : seq <= 281474976710655) :
    Calls prog 284 #[layV l, .int .i64 slot, .int .i64 seq] w fun e w' => ∃ pb, e = .returned (.tuple #[.pointer (some ⟨pb, 0, none⟩), .int .i64 0]) /\ w.heap.size <= pb /\ Pk w' pb l (firstD l slot) seq [] 0 (.slice none 0 0) /\ Below w.heap.size w w' := by
  have hcr := capD_rng hf
  have F1 := hid (fun W => form20 l.id l.ver l.rs l.rg W)
  have F2 := hid (fun W => first13 l.id l.ver l.rs l.rg slot W)
  have hfd : firstD l slot = 74 + slot * l.rs := by unfold firstD; rw [if_pos ⟨hf, h0, h1⟩]
  obtain ⟨_, _, r0, r1, g0, g1⟩ := formB_rng hf
  have hmr := mul_rng h0 (by omega) r0 r1
  have hfr : 74 <= firstD l slot /\ firstD l slot <= 30794 := by rw [hfd]; omega
  obtain ⟨id, ver, rs, rg⟩ := l
  simp only at *
  rw [hf] at F1
  obtain ⟨fst, hfst⟩ : ∃ x, firstD ⟨id, ver, rs, rg⟩ slot = x := ⟨_, rfl⟩
  rw [hfst] at F2 hfr ⊢
  obtain ⟨f0, f1⟩ := hfr
  have HF := hid hf
  have HC := hid hcr
  clear hf hfd hmr hfst hcr
  go_enter Tryz.func284, Tryz.ntmps284
  go_wp2_with fail
  with_reducible refine (F1.out _).mono ?_
  rintro e w1 ⟨rfl, hb1⟩
  obtain ⟨hb1, hblk⟩ := bel1x hb1
  have c0 : w1.cell? ⟨w.heap.size, 0, none⟩ = some (.int .i64 id) := qB hblk
  have c1 : w1.cell? ⟨w.heap.size, 1, none⟩ = some (.int .i64 ver) := qB hblk
  have c2 : w1.cell? ⟨w.heap.size, 2, none⟩ = some (.int .i64 rs) := qB hblk
  have c3 : w1.cell? ⟨w.heap.size, 3, none⟩ = some (.int .i64 rg) := qB hblk
  have B1 := hid hb1
  have HB := hid hblk
  clear hb1 hblk
  go_wp2_with fail
  with_reducible refine (F2.out _).mono ?_
  rintro e w2 ⟨rfl, hb2⟩
  have e2 := (hb2.block _ (lB HB.out)).trans HB.out
  have c0 : w2.cell? ⟨w.heap.size, 0, none⟩ = some (.int .i64 id) := qB e2
  have c1 : w2.cell? ⟨w.heap.size, 1, none⟩ = some (.int .i64 ver) := qB e2
  have c2 : w2.cell? ⟨w.heap.size, 2, none⟩ = some (.int .i64 rs) := qB e2
  have c3 : w2.cell? ⟨w.heap.size, 3, none⟩ = some (.int .i64 rg) := qB e2
  have B2 := hid (tB B1.out hb2)
  clear hb2 e2
  go_wp2_with fail
  go_ret2
  exact ⟨w2.heap.size, rfl, B2.out.size, ⟨nB w2 _, .nil _ _, HF.out, ⟨f0, by omega⟩, ⟨s0, s1⟩, by have := HC.out; simp only [List.length_nil]; omega, by simp⟩, B2.out.alloc B2.out.size _⟩
theorem proom8 (pb : Nat) (l : Lay) (first seq : Int) (st : List Int) (tk : Nat) (sv : Value) (w : World) (h : Pk w pb l first seq st tk sv) :
    Calls prog 209 #[.pointer (some ⟨pb, 0, none⟩)] w fun e w' => e = .returned (.int .i64 (capD l - (st.length : Int))) /\ Below w.heap.size w w' := by
  obtain ⟨sa, sc, rfl, hr⟩ := h.own.rd
  have hcr := capD_rng h.form
  have hrm := h.room
  have CP := hid (fun W => capacity14 l.id l.ver l.rs l.rg W)
  obtain ⟨id, ver, rs, rg⟩ := l
  simp only at *
  obtain ⟨cp, hcp⟩ : ∃ x, capD ⟨id, ver, rs, rg⟩ = x := ⟨_, rfl⟩
  rw [hcp] at CP hcr hrm ⊢
  obtain ⟨cp0, cp1⟩ := hcr
  obtain ⟨sn, hsn⟩ : ∃ n, st.length = n := ⟨_, rfl⟩
  have hb := h.blk
  rw [hsn] at hb hrm ⊢
  have hlt := lB hb
  have K := hid (show ∀ W, Below w.heap.size w W -> W.cell? ⟨pb, 0, none⟩ = some (.int .i64 id) /\ W.cell? ⟨pb, 1, none⟩ = some (.int .i64 ver) /\ W.cell? ⟨pb, 2, none⟩ = some (.int .i64 rs) /\ W.cell? ⟨pb, 3, none⟩ = some (.int .i64 rg) /\ W.cell? ⟨pb, 6, none⟩ = some (.slice sa sn sc) from fun W hW =>
    have e := (hW.block pb hlt).trans hb
    ⟨qB e, qB e, qB e, qB e, qB e⟩)
  have K0 := hid (K.out _ (Below.refl _ w).drew)
  have hs0 : 0 <= cp - (sn : Int) := by omega
  have hwr : IntKind.i64.wrap (cp - (sn : Int)) = cp - (sn : Int) := by simp [IntKind.wrap, IntKind.bits, IntKind.signed]; omega
  clear h hr hb hsn hcp
  go_enter Tryz.func209, Tryz.ntmps209
  go_wp2_with fail
  go_region_held3 (fun w' => w'.cell? ⟨pb, 0, none⟩ = some (.int .i64 id) /\ w'.cell? ⟨pb, 1, none⟩ = some (.int .i64 ver) /\ w'.cell? ⟨pb, 2, none⟩ = some (.int .i64 rs) /\ w'.cell? ⟨pb, 3, none⟩ = some (.int .i64 rg) /\ w'.cell? ⟨pb, 6, none⟩ = some (.slice sa sn sc)) (first | with_reducible exact K0.out | with_reducible exact hS)
    (first
      | ((go_at_call 129); (with_reducible refine (CP.out _).mono ?_); (rintro e w2 ⟨rfl, hb2⟩); (have hB := bidd (w := w) hb2); (have hS := K.out _ hB)))
  go_wp2_with fail
  go_ret
  exact ⟨rfl, hB⟩
theorem Rd8.news {w : World} {a : Option Addr} {n cap : Nat} {bs : List Int} (h : Rd8 w a n cap bs) (hn : 0 < n) : ∃ g off, a = some ⟨g, off, none⟩ /\ ∀ j u, (u8s bs)[j]? = some u -> w.cell? ((⟨g, off, none⟩ : Addr).add j) = some u := by
  obtain ⟨g, off, rfl, _, _⟩ := h.el 0 hn
  refine ⟨g, off, rfl, fun j u hu => ?_⟩
  have hj : j < n := by
    rw [<- h.len]
    have := (List.getElem?_eq_some_iff.1 hu).1
    simpa using this
  obtain ⟨g', off', e, _, hc⟩ := h.el j hj
  cases e
  rw [Addr.add_mid, hc]
  rw [u8s, List.getElem?_map] at hu
  obtain ⟨z, hz, rfl⟩ := Option.map_eq_some_iff.1 hu
  rw [hz]; rfl
theorem Pk.app {w w1 : World} {pb : Nat} {l : Lay} {first seq : Int} {st bs : List Int} {tk m g cap : Nat} {sv : Value} (h : Pk w pb l first seq st tk sv)
    (ho : w1.ownsRow (pb + 1) 5 1 (.slice (some ⟨g, 0, none⟩) (st.length + m) cap) (st.length + m) (u8s st ++ u8s bs)) (hg : w.grownBy w1 sv.ownBlock) (hm : bs.length = m) (hb : Byte8 bs) (hr : ((st.length + m : Nat) : Int) <= capD l) :
    Pk (w1.setCell ⟨pb, 6, none⟩ (.slice (some ⟨g, 0, none⟩) (st.length + m) cap)) pb l first seq (st ++ bs) tk (.slice (some ⟨g, 0, none⟩) (st.length + m) cap) := by
  have hpb : w1.heap[pb]? = _ := (hg.block pb (lB h.blk) (fun e => by have := (h.own.own.lt pb e.symm).1; omega)).trans h.blk
  have ho2 := Own8.app ho hm h.own.byt hb
  refine ⟨uB hpb _, ho2.setOther (by omega) _ _, h.form, h.fst, h.sq, ?_, by have := h.tks; simp; omega⟩
  rw [List.length_append, hm]; exact hr
theorem pput8 (T : Nat -> Int) (pb : Nat) (l : Lay) (first seq : Int) (st : List Int) (tk : Nat) (sv : Value) (r : Rec) (ka va : Option Addr) (kn kc vn vc : Nat) (w : World) (h : Pk w pb l first seq st tk sv) (hT : CrcT T w) (hk : Rd8 w ka kn kc r.key) (hv : Rd8 w va vn vc r.val)
    (hc : recChk l.ver r = 0) (hfit : ((st.length + (16 + kn + vn) : Nat) : Int) <= capD l) :
    Calls prog 285 #[.pointer (some ⟨pb, 0, none⟩), recV r.kind r.exp ka kn kc va vn vc] w fun e w' => ∃ sv', e = .returned (.tuple #[.int .i64 (st.length : Int), .int .i64 ((16 + kn + vn : Nat) : Int), .int .i64 0]) /\
      Pk w' pb l first seq (st ++ recE T l.ver seq (st.length : Int) r) tk sv' /\ Fr (pkF pb sv) w w' /\ (∀ g, sv'.ownBlock = some g -> sv.ownBlock = some g \/ w.heap.size <= g) := by
  obtain ⟨i0, hi, hz0, hz1, hz2⟩ := info_parts u8info
  have I1 := hid hi; have I2 := hid hz0; have I3 := hid hz1; have I4 := hid hz2
  obtain ⟨sa, sc, rfl, hr⟩ := h.own.rd
  have hcr := capD_rng h.form
  have HS := hid h
  have hsq := h.sq
  have hkl := hk.len
  have hvl := hv.len
  have hb := h.blk
  have hlt := lB hb
  have hel : (recE T l.ver seq (st.length : Int) r).length = 16 + kn + vn := by rw [recE_length, hkl, hvl]
  have heb : Byte8 (recE T l.ver seq (st.length : Int) r) := recE_byte hk.byt hv.byt
  have hex := hid (show ((16 + kn + vn : Nat) : Int) <= capD l - (st.length : Int) by omega)
  have hls : (st.length : Int) <= 120773 := by omega
  have RM := hid (fun (W : World) (hW : Pk W pb l first seq st tk (.slice sa st.length sc)) => proom8 pb l first seq st tk (.slice sa st.length sc) W hW)
  have EN := hid (fun (W : World) (hT : CrcT T W) (hK : Rd8 W ka kn kc r.key) (hV : Rd8 W va vn vc r.val) => renc8 T l.ver seq (st.length : Int) r ka va kn kc vn vc W hc hT hK hV (by omega) (by omega) (by omega) (by omega))
  have HK := hid hk; have HV := hid hv; have HT := hid hT; have HEL := hid hel; have HEB := hid heb
  have HFIT := hid hfit
  obtain ⟨E, hE⟩ : ∃ E, recE T l.ver seq (st.length : Int) r = E := ⟨_, rfl⟩
  rw [hE] at EN HEL HEB ⊢
  obtain ⟨en, hen⟩ : ∃ en, 16 + kn + vn = en := ⟨_, rfl⟩
  have hen0 : 0 < en := by omega
  have hen1 : en <= 120773 := by omega
  rw [hen] at EN HEL hex HFIT ⊢
  obtain ⟨cp, hcp⟩ : ∃ x, capD l = x := ⟨_, rfl⟩
  have HCP := hid hcp
  rw [hcp] at RM hex hcr hfit
  obtain ⟨sn, hsn⟩ : ∃ n, st.length = n := ⟨_, rfl⟩
  have HSN := hid hsn
  rw [hsn] at hb hls RM EN hex hfit ⊢
  have hex1 : (en : Int) <= cp - (sn : Int) := hex.out
  obtain ⟨w0, hw0⟩ : ∃ w0, w.alloc (.cells #[.int .i64 r.kind, .slice ka kn kc, .slice va vn vc, .int .i64 r.exp] 161) = w0 := ⟨_, rfl⟩
  have hs0 : w0.heap.size = w.heap.size + 1 := by rw [<- hw0]; simp
  have B0 := hid (show Below w.heap.size w w0 by rw [<- hw0]; exact (Below.refl _ _).alloc (Nat.le_refl _) _)
  have HB3 := hid (show w0.heap[w.heap.size]? = some (.cells #[.int .i64 r.kind, .slice ka kn kc, .slice va vn vc, .int .i64 r.exp] 161 (0, 0)) by rw [<- hw0]; exact nB w _)
  have HBP := hid ((B0.out.block pb hlt).trans hb)
  have K := hid (show ∀ W, Below w0.heap.size w0 W -> (W.cell? ⟨pb, 1, none⟩ = some (.int .i64 l.ver) /\ W.cell? ⟨pb, 5, none⟩ = some (.int .i64 seq)) /\ W.cell? ⟨w.heap.size, 0, none⟩ = some (.int .i64 r.kind) /\ W.cell? ⟨w.heap.size, 1, none⟩ = some (.slice ka kn kc) /\ W.cell? ⟨w.heap.size, 2, none⟩ = some (.slice va vn vc) /\ W.cell? ⟨w.heap.size, 3, none⟩ = some (.int .i64 r.exp) from fun W hW =>
    have e := (hW.block pb (by omega)).trans HBP.out
    have e2 := (hW.block w.heap.size (by omega)).trans HB3.out
    ⟨⟨qB e, qB e⟩, qB e2, qB e2, qB e2, qB e2⟩)
  have K0 := hid (K.out _ (Below.refl _ w0).drew)
  have EN0 := hid (EN.out w0.drew (HT.out.below B0.out.drew HT.out.lt) (HK.out.below B0.out.drew (Nat.le_refl _)) (HV.out.below B0.out.drew (Nat.le_refl _)))
  have KP := hid (show w0.cell? ⟨pb, 6, none⟩ = some (.slice sa sn sc) from qB HBP.out)
  have k6 := KP.out
  clear h hr hb hsn hcp hE hen hex hT hk hv hc hkl hvl hel heb hi hz0 hz1 hz2 EN hfit
  go_enter Tryz.func285, Tryz.ntmps285
  go_upto_region 4 with fail
  (try rw [hw0])
  clear hw0
  go_cut [6, 7] (fun v6 v7 wx => v6 = .int .i64 0 /\ ∃ a7 c7, v7 = .slice a7 en c7 /\ Own8 w0.heap.size wx (.slice a7 en c7) E /\ Below w0.heap.size w0 wx)
  case first =>
    go_region_held3 (fun w' => (w'.cell? ⟨pb, 1, none⟩ = some (.int .i64 l.ver) /\ w'.cell? ⟨pb, 5, none⟩ = some (.int .i64 seq)) /\ w'.cell? ⟨w.heap.size, 0, none⟩ = some (.int .i64 r.kind) /\ w'.cell? ⟨w.heap.size, 1, none⟩ = some (.slice ka kn kc) /\ w'.cell? ⟨w.heap.size, 2, none⟩ = some (.slice va vn vc) /\ w'.cell? ⟨w.heap.size, 3, none⟩ = some (.int .i64 r.exp)) (first | with_reducible exact K0.out | with_reducible exact hS)
      (first
        | ((go_at_call 199); (with_reducible refine (EN0.out).mono ?_); (rintro e w2 ⟨a7, c7, rfl, ho, hb⟩); (have hB := bidd (w := w0) hb); (have hS := K.out _ hB)))
    go_wp2_with fail
    go_meet
    exact ⟨rfl, a7, c7, rfl, ho, hB⟩
  case rest =>
    obtain ⟨rfl, a7, c7, rfl, ho, hb⟩ := hcut
    obtain ⟨_, _, he, hr7⟩ := ho.rd
    rw [HEL.out] at he hr7
    cases he
    have BC := hid (B0.out.trans (hb.mono B0.out.size))
    have hpk : Pk w pb l first seq st tk (.slice sa sn sc) := by have := HS.out; rw [HSN.out] at this; exact this
    have HP := hid (hpk.below BC.out)
    have HPW := hid hpk
    have R7 := hid hr7
    clear hpk hb ho hr7
    go_wp2_with fail
    with_reducible refine (RM.out _ HP.out).mono ?_
    rintro e w3 ⟨rfl, hb3⟩
    have B3 := hid (tB BC.out hb3)
    have hpk := HPW.out.below B3.out
    have k6 : w3.cell? ⟨pb, 6, none⟩ = some (.slice sa sn sc) := qB hpk.blk
    have f6 : w3.frozen? ⟨pb, 6, none⟩ = false := zB hpk.blk
    have hp3 := lB hpk.blk
    have hown := hpk.own.own
    rw [HSN.out] at hown
    obtain ⟨g7, o7, rfl, hnews⟩ := (R7.out.below hb3 (Nat.le_refl _)).news hen0
    have HE3 := hid hown
    have HN3 := hid hnews
    have HP3 := hid hpk
    have hsn1 : sn + en <= 241546 := by omega
    have HL7 := hid (show (u8s E).length = en * 1 by simp [HEL.out])
    clear hb3 hpk hown hnews RM
    go_wp2_with (at_builtin; refine Stop.out ?_)
    refine Stop.of (wpList_append_lies _ rfl _ _ 33 rfl (pb + 1) 5 i0 (.int .u8 0) 1 1 Tryz.underlying33 I1.out I2.out I3.out I4.out rfl (by decide) _ sn (u8s st) rfl HE3.out
      ⟨g7, o7, none⟩ en c7 (u8s E) rfl HL7.out HN3.out (ints_one _ _) hen0 (by unfold maxLen; omega) (by omega) (by omega) _ rfl ?_)
    intro g cap w4 hown hgrow hat hlt4
    have hne : ¬ (some pb = (Value.slice sa sn sc).ownBlock) := fun e => by have := (HE3.out.lt pb e.symm).1; omega
    have e4 := (hgrow.block pb hp3 hne).trans HP3.out.blk
    have x6 : w4.cell? ⟨pb, 6, none⟩ = some (.slice sa sn sc) := qB e4
    have y6 : w4.frozen? ⟨pb, 6, none⟩ = false := zB e4
    have hcn : cp = capD l := HCP.out.symm
    have P9 := hid (HP3.out.app (bs := E) (m := en) (g := g) (cap := cap) (w1 := w4) (by rw [HSN.out]; exact hown) hgrow HEL.out HEB.out (by rw [HSN.out]; omega))
    rw [HSN.out] at P9
    have F9 := hid (((Fr.of_below (S := pkF pb (.slice sa sn sc)) B3.out).trans (Fr.of_grown (S := pkF pb (.slice sa sn sc)) hgrow (fun k hk => .inr hk)) (fun j hj => .inl hj)).trans (fS w4 pb 6 (.slice (some ⟨g, 0, none⟩) (sn + en) cap)) (fun j hj => .inl (.inl hj)))
    have hsz3 := B3.out.size
    clear e4 hown hgrow hcn k6 f6
    go_wp2_with fail
    go_ret3
    refine ⟨_, rfl, P9.out, F9.out, fun g' hg' => ?_⟩
    have hg2 : g = g' := by simpa [Value.ownBlock] using hg'
    rcases hat with h1 | h1
    · exact .inl (h1.trans (by rw [hg2]))
    · exact .inr (by omega)
def padN (n : Nat) : Nat := (59 - n % 59) % 59
def slen : Option Value -> Nat
  | some (.slice _ n _) => n
  | _ => 0
theorem padN_fit {l : Lay} {n : Nat} (h : formB l = true) (hn : (n : Int) <= capD l) : ((n + padN n : Nat) : Int) <= capD l := by
  obtain ⟨_, _, a, b, _⟩ := formB_rng h
  unfold capD at *
  rw [if_pos h] at *
  unfold padN
  have : ((n : Int)) % 59 = ((n % 59 : Nat) : Int) := by omega
  omega
theorem padN_lt (n : Nat) : padN n < 59 := by unfold padN; omega
theorem padN_step (n k : Nat) (hk : k < padN n) : (n + k) % 59 ≠ 0 := by unfold padN at hk; omega
theorem padN_end (n : Nat) : (n + padN n) % 59 = 0 := by unfold padN; omega
theorem ppad8 (pb : Nat) (l : Lay) (first seq : Int) (st : List Int) (tk : Nat) (sv : Value) (w : World) (h : Pk w pb l first seq st tk sv) :
    Calls prog 189 #[.pointer (some ⟨pb, 0, none⟩)] w fun e w' => e = .returned (.tuple #[]) /\ ∃ sv', Pk w' pb l first seq (st ++ List.replicate (padN st.length) 0) tk sv' /\ Fr (pkF pb sv) w w' /\ (∀ g, sv'.ownBlock = some g -> sv.ownBlock = some g \/ w.heap.size <= g) := by
  obtain ⟨i0, hi, hz0, hz1, hz2⟩ := info_parts u8info
  have I1 := hid hi; have I2 := hid hz0; have I3 := hid hz1; have I4 := hid hz2
  have H := hid h
  have hpf := padN_fit h.form h.room
  have hcr := (capD_rng h.form).2
  have hpl := padN_lt st.length
  have PF := hid hpf
  have hsl : st.length <= 120773 := by have := h.room; omega
  clear h hi hz0 hz1 hz2 hpf
  go_enter Tryz.func189, Tryz.ntmps189
  go_wp2_with fail
  go_loopw [] (fun wr => ∃ k sv', k <= padN st.length /\ Pk wr pb l first seq (st ++ List.replicate k 0) tk sv' /\ Fr (pkF pb sv) w wr /\ (∀ g, sv'.ownBlock = some g -> sv.ownBlock = some g \/ w.heap.size <= g)) (fun wr => st.length + padN st.length - slen (wr.cell? ⟨pb, 6, none⟩))
  case atStart => exact ⟨0, sv, Nat.zero_le _, by simpa using H.out, Fr.refl _ _, fun g hg => .inl hg⟩
  case round =>
    obtain ⟨k, sv', hk, hp, hf, hg⟩ := hrel
    obtain ⟨sa, sc, rfl, _⟩ := hp.own.rd
    have hll : (st ++ List.replicate k (0 : Int)).length = st.length + k := by simp
    rw [hll] at hp hg
    obtain ⟨sk, hsk⟩ : ∃ sk, st.length + k = sk := ⟨_, rfl⟩
    rw [hsk] at hp hg
    have P1 := hid hp
    have F1 := hid hf
    have G1 := hid hg
    have k6 : wr.cell? ⟨pb, 6, none⟩ = some (.slice sa sk sc) := qB hp.blk
    have K6 := hid k6
    have hlt := lB hp.blk
    have HSK := hid hsk
    have hsk2 : sk <= 120832 := by omega
    clear hp hf hg hll
    by_cases hlt : k < padN st.length
    · have hne2 : ¬ ((sk : Int) % 59 = 0) := by
        have := padN_step _ _ hlt
        rw [hsk] at this; omega
      have hne : ((sk : Int) % 59 != 0) = true := by simpa using hne2
      go_wp2_with (at_builtin; refine Stop.out ?_)
      have hown := P1.out.own.own
      have hll : (st ++ List.replicate k (0 : Int)).length = sk := by simp [hsk]
      rw [hll] at hown
      have HO := hid hown
      have hbs : pb + 1 <= (wr.alloc (.cells #[.int .u8 0] 5)).heap.size := by simp; omega
      refine Stop.of (wpList_append_lies _ rfl _ _ 33 rfl (pb + 1) 5 i0 (.int .u8 0) 1 1 Tryz.underlying33 I1.out I2.out I3.out I4.out rfl (by decide) (.slice sa sk sc) sk (u8s (st ++ List.replicate k 0)) rfl (HO.out.alloc _)
        ⟨wr.heap.size, 0, none⟩ 1 1 [.int .u8 0] rfl rfl (World.news_of_block (cs := #[.int .u8 0]) (nB wr _)) (ints_one .u8 [0]) (by decide) (by unfold maxLen; omega) (by omega) hbs _ rfl ?_)
      intro g cap w4 hown4 hgrow hat hlt4
      have hpa := P1.out.below ((Below.refl _ _).alloc (Nat.le_refl _) (.cells #[.int .u8 0] 5))
      have hpl2 := lB hpa.blk
      have hne3 : ¬ (some pb = (Value.slice sa sk sc).ownBlock) := fun e => by have := (P1.out.own.own.lt pb e.symm).1; omega
      have e4 := (hgrow.block pb hpl2 hne3).trans hpa.blk
      have x6 : w4.cell? ⟨pb, 6, none⟩ = some (.slice sa sk sc) := qB e4
      have y6 : w4.frozen? ⟨pb, 6, none⟩ = false := zB e4
      have hpq := hpa.app (bs := [0]) (m := 1) (g := g) (cap := cap) (w1 := w4) (by rw [hll]; exact hown4) hgrow rfl (.cons (by omega) (by omega) .nil) (by rw [hll]; have := PF.out; omega)
      have hrep : st ++ List.replicate k (0 : Int) ++ [0] = st ++ List.replicate (k + 1) 0 := by rw [List.append_assoc, <- List.replicate_succ']
      rw [hrep, hll] at hpq
      have P9 := hid hpq
      have F9 := hid (((F1.out.alloc (.cells #[.int .u8 0] 5)).trans (Fr.of_grown (S := pkF pb (.slice sa sk sc)) hgrow (fun k hk => .inr hk)) (fun j hj => hj.elim (fun h => .inl (.inl h)) (fun h => (G1.out j h).elim (fun h => .inl (.inr h)) .inr))).trans (fS w4 pb 6 (.slice (some ⟨g, 0, none⟩) (sk + 1) cap)) (fun j hj => .inl (.inl hj)))
      have hsz := F1.out.size
      have G9 := hid (show ∀ g', (Value.slice (some ⟨g, 0, none⟩) (sk + 1) cap).ownBlock = some g' -> sv.ownBlock = some g' \/ w.heap.size <= g' from fun g' hg' => by
        have hg2 : g = g' := by simpa [Value.ownBlock] using hg'
        rcases hat with h1 | h1
        · exact G1.out g' (h1.trans (by rw [hg2]))
        · right; simp at h1; omega)
      clear e4 hown4 hgrow hpq hrep hpa
      go_wp2_with fail
      go_roundw
      case rel => exact ⟨k + 1, _, by omega, P9.out, F9.out, G9.out⟩
      case measure =>
        have e1 := P9.out.blk
        have e2 : (w4.setCell ⟨pb, 6, none⟩ (.slice (some ⟨g, 0, none⟩) (sk + 1) cap)).cell? ⟨pb, 6, none⟩ = some (.slice (some ⟨g, 0, none⟩) (sk + 1) cap) := qB e1
        rw [e2, K6.out]
        simp only [slen]
        have := HSK.out
        omega
    · obtain rfl : k = padN st.length := by omega
      have hne2 : (sk : Int) % 59 = 0 := by
        have := padN_end st.length
        rw [hsk] at this; omega
      have hne : ((sk : Int) % 59 != 0) = false := by simpa using hne2
      go_wp2_with fail
      go_end0
      exact ⟨rfl, _, P1.out, F1.out, G1.out⟩
theorem pbytes8 (pb : Nat) (l : Lay) (first seq : Int) (st : List Int) (tk : Nat) (sv : Value) (off n : Nat) (zo zn : Int) (w : World) (h : Pk w pb l first seq st tk sv) (ho : off + n <= st.length) (hzo : zo = (off : Int)) (hzn : zn = (n : Int)) :
    Calls prog 330 #[.pointer (some ⟨pb, 0, none⟩), .int .i64 zo, .int .i64 zn] w fun e w' => ∃ a' c', e = .returned (.slice a' n c') /\ Own8 w.heap.size w' (.slice a' n c') ((st.drop off).take n) /\ Below w.heap.size w w' := by
  obtain ⟨sa, sc, rfl, hr⟩ := h.own.rd
  have hcr := (capD_rng h.form).2
  have hrm := h.room
  have k6 : w.cell? ⟨pb, 6, none⟩ = some (.slice sa st.length sc) := qB h.blk
  obtain ⟨sn, hsn⟩ : ∃ n, st.length = n := ⟨_, rfl⟩
  rw [hsn] at hr k6 ho hrm
  have hm := hr.mid off n ho
  have hcl := hr.cap_le
  have hsn9 : sn <= 120773 := by omega
  have S1 := fun W : World => slice_mid' sa sn sc (off : Int) ((off : Int) + (n : Int)) off (off + n) n (sc - off) rfl (by omega) (by omega) (by omega) (by omega) rfl W
  have CL := hid (clone8z _ _ _ _ w hm (by omega))
  have z0 : (0 : Int) <= (off : Int) := by omega
  have z1 : (0 : Int) <= (n : Int) := by omega
  have z2 : (off : Int) <= (sn : Int) := by omega
  have z3 : (n : Int) <= (sn : Int) - (off : Int) := by omega
  have z4 : (sn : Int) - (off : Int) <= 120773 := by omega
  have hw1 : IntKind.i64.wrap ((sn : Int) - (off : Int)) = (sn : Int) - (off : Int) := by simp [IntKind.wrap, IntKind.bits, IntKind.signed]; omega
  have hw2 : IntKind.i64.wrap ((off : Int) + (n : Int)) = (off : Int) + (n : Int) := by simp [IntKind.wrap, IntKind.bits, IntKind.signed]; omega
  have d1 : decide ((off : Int) < 0) = false := by simp
  have d2 : decide ((n : Int) < 0) = false := by simp
  have d3 : decide ((sn : Int) < (off : Int)) = false := by simp; omega
  have d4 : decide ((sn : Int) - (off : Int) < (n : Int)) = false := by simp; omega
  subst hzo hzn
  clear h hr hm hcl hsn hcr hrm
  go_enter Tryz.func330, Tryz.ntmps330
  go_wp2_with fail
  with_reducible refine CL.out.mono ?_
  rintro e w1 ⟨a', c', rfl, ho1, _, hb1⟩
  go_wp2_with fail
  go_ret
  exact ⟨a', c', rfl, ho1, hb1⟩
end Go.Proofs.YtbikkioipamlmaaGreatDoor
