/-
  The contract of Put.
-/
import Derived.Test.YtmbjkkoennadkaaClean
namespace Go.Proofs.Ytmbjkkoennadkaa
open Go.RowKit Go.Maps
theorem put_store {w w2 : World} {b N : Nat} {v : Value} {l : List Item} {mb m : Nat} {D : DataW Nat} {L : List Item} {k : ByteArray} {a : Int} (q : Qd w b N v l mb m D (remL L k)) (ha : 1 ≤ a)
    (hg : w.grownBy w2 (some mb)) :
    Hp w2 b 0 v l (.map (some mb)) ∧ Agree (D.put (klit k) (zlit a)) (putL L k a) ∧ Rising (putL L k a) ∧ Fr (fun j => j = mb) w w2 := by
  have hf : Fr (fun j => j = mb) w w2 := .of_grown hg (by rintro j e; cases e; rfl)
  obtain ⟨h1, h2⟩ := q.mb_ne
  have hk : ∀ y ∈ remL L k, y.key ≠ k := fun y hy => (mem_remL.1 hy).2
  have e : putL L k a = insL (remL L k) ⟨k, a⟩ := by unfold putL; rw [if_neg (by omega)]
  rw [e]
  exact ⟨q.hp.frame hf (fun e => h1 e.symm) (fun g hg e => h2 g hg e), q.ag.put (q.om.tidy strK) ⟨k, a⟩ ha hk, q.ri.ins ⟨k, a⟩ hk ha, hf⟩
theorem put_pushed {w w2 w3 : World} {b N : Nat} {v v3 : Value} {l : List Item} {mb m : Nat} {D : DataW Nat} {L : List Item} {k : ByteArray} {a : Int} (q : Qd w b N v l mb m D (remL L k)) (ha : 1 ≤ a) (hk : k.size ≤ maxLen)
    (ho : OM w2 mb (m + 1) (D.put (klit k) (zlit a))) (hg : w.grownBy w2 (some mb)) (hp : Hp w3 b 0 v3 (pushL l ⟨k, a⟩) (.map (some mb))) (hf : Fr (fun j => j = b ∨ v.ownBlock = some j) w2 w3) :
    Qd w3 b (N + 1) v3 (pushL l ⟨k, a⟩) mb (m + 1) (D.put (klit k) (zlit a)) (putL L k a) ∧ Fr (foot b v mb) w w3 := by
  obtain ⟨_, h2, h3, h4⟩ := put_store q ha hg
  obtain ⟨n1, n2⟩ := q.mb_ne
  have hperm := pushL_perm l ⟨k, a⟩
  have e : putL L k a = insL (remL L k) ⟨k, a⟩ := by unfold putL; rw [if_neg (by omega)]
  refine ⟨⟨hp, ho.frame hf (by rintro (e | e); exact n1 e; exact n2 _ e rfl), by have := q.mN; omega, ?_, h2, h3, pushL_heap _ _ q.ho, fun x hx => ?_, fun x hx => ?_⟩, ?_⟩
  · have := hperm.length_eq
    have := q.lN
    simp at *
    omega
  · rw [e] at hx
    refine hperm.mem_iff.2 (List.mem_cons.2 ?_)
    exact (mem_insL.1 hx).imp id (q.sub x)
  · rcases List.mem_cons.1 (hperm.mem_iff.1 hx) with rfl | h
    · exact ⟨ha, hk⟩
    · exact q.fit x h
  · exact (h4.mono (T := foot b v mb) (fun j _ e => .inr (.inr e))).trans hf (fun j e => .inl (e.imp id .inl))
set_option maxRecDepth 100000 in
set_option maxHeartbeats 4000000 in
theorem put8 (b N : Nat) (v : Value) (l : List Item) (mb m : Nat) (D : DataW Nat) (L : List Item) (k : ByteArray) (a : Int) (w : World) (hN : N + 1 ≤ 1000000) (hk : k.size ≤ maxLen) (hwf : (Lit.int .i64 a).wf = true) (h : Qd w b N v l mb m D L) :
    Calls Try.prog 8 #[.pointer (some ⟨b, 0, none⟩), .string k, .int .i64 a] w fun e w' =>
      NoRes e ∧ ∃ v' l' m' D', Qd w' b (N + 1) v' l' mb m' D' (putL L k a) ∧ Fr (foot b v mb) w w' ∧ ∀ g, v'.ownBlock = some g → v.ownBlock = some g ∨ w.heap.size ≤ g := by
  have c2 := blk_cell (i := 2) h.hp.blk
  simp only [List.getElem?_toArray, List.getElem?_cons_zero, List.getElem?_cons_succ] at c2
  have OMH := Lib.hid h.om
  have Q := Lib.hid h
  have HK := Lib.hid (keyK hk)
  have HW := Lib.hid hwf
  clear h hwf
  by_cases ha : a < 1
  · go_enter Try.func8, Try.ntmps8
    go_wp2_with (first | (at_delete; (refine wpList_delete_own _ rfl _ _ 52 9 rfl 3 strK mapT (plainElem Try.prog 3) mb m D rfl OMH.out _ (klit k) rfl HK.out ?_); intro w1 hown1 hturn1) | fail)
    refine bodyPost_ret (results_none rfl _ _ _) rfl ?_
    obtain ⟨q1, hf⟩ := drop_queue Q.out k hown1 hturn1
    refine ⟨rfl, v, l, m, D.del (klit k), ?_, hf.mono (fun j _ e => .inr (.inr e)), fun g hg => .inl hg⟩
    have e : putL L k a = remL L k := by unfold putL; rw [if_pos ha]
    rw [e]
    exact ⟨q1.hp, q1.om, by have := q1.mN; omega, by have := q1.lN; omega, q1.ag, q1.ri, q1.ho, q1.sub, q1.fit⟩
  · go_enter Try.func8, Try.ntmps8
    go_wp2_with (first | (at_delete; (refine wpList_delete_own _ rfl _ _ 52 9 rfl 3 strK mapT (plainElem Try.prog 3) mb m D rfl OMH.out _ (klit k) rfl HK.out ?_); intro w1 hown1 hturn1; refine Stop.out ?_) | fail)
    refine Stop.of ?_
    have D1 := Lib.hid (drop_queue Q.out k hown1 hturn1)
    have c2 := blk_cell (i := 2) D1.out.1.hp.blk
    simp only [List.getElem?_toArray, List.getElem?_cons_zero, List.getElem?_cons_succ] at c2
    have OM1 := Lib.hid hown1
    have hm : m < maxLen := by have := Q.out.mN; unfold maxLen; omega
    clear hown1 hturn1
    go_wp2_with (first | (at_mapUpdate; (refine wpList_mapUpdate_own _ rfl _ _ _ 52 rfl 9 3 strK mapT _ mb m _ rfl OM1.out hm _ _ _ rfl rfl HK.out _ [] (valE HW.out) ?_); intro w2 hown2 hgrow2; refine Stop.out ?_) | fail)
    refine Stop.of ?_
    have ha' : 1 ≤ a := by omega
    have S2 := Lib.hid (put_store (L := L) D1.out.1 ha' hgrow2)
    have OM2 := Lib.hid hown2
    have HG2 := Lib.hid hgrow2
    have blt := blk_lt S2.out.1.blk
    have PU := Lib.hid (push19 b 0 v (.map (some mb)) l ⟨k, a⟩ w2 (by have := Q.out.lN; omega) S2.out.1 (Nat.zero_le _))
    clear hown2 hgrow2 c2
    go_wp2_with fail
    with_reducible refine PU.out.mono ?_
    rintro e w3 ⟨rfl, v3, hp3, hf3, hn3⟩
    have Q3 := Lib.hid (put_pushed D1.out.1 ha' hk OM2.out HG2.out hp3 hf3)
    have HN3 := Lib.hid hn3
    clear hp3 hf3 hn3
    obtain ⟨g3, cap3, hv3⟩ : ∃ g cap, v3 = .slice (some ⟨g, 0, none⟩) (pushL l ⟨k, a⟩).length cap := by
      rcases Q3.out.1.form with ⟨h, _⟩ | h
      · have := (pushL_perm l ⟨k, a⟩).length_eq
        rw [h] at this; simp at this
      · exact h
    subst hv3
    have c0 := blk_cell (i := 0) Q3.out.1.hp.blk
    have c2 := blk_cell (i := 2) Q3.out.1.hp.blk
    simp only [List.getElem?_toArray, List.getElem?_cons_zero, List.getElem?_cons_succ] at c0 c2
    have hlen := fun ty => World.ownsMap.len (w := w3.drew) Q3.out.1.om mapT ty
    have hlN := Q3.out.1.lN
    have hsN := Q3.out.1.om.size_le
    have hmN := Q3.out.1.mN
    have CL := Lib.hid (clean20 b (N + 1) _ _ mb (m + 1) _ (putL L k a) w3.drew hN (Q3.out.1.hp.below ((Below.refl _ _).drew)) Q3.out.1.om Q3.out.1.mb_ne.1 (by have := Q3.out.1.mN; omega) Q3.out.1.ag Q3.out.1.ri (fun x hx => (Q3.out.1.fit x (Q3.out.1.sub x hx)).2))
    generalize hs : Maps.size ((D.del (klit k)).put (klit k) (zlit a)) = s at *
    clear hs
    generalize hl3 : (pushL l ⟨k, a⟩).length = n3 at *
    clear hl3
    go_wp2_with fail
    go_region
    go_wp2_with fail
    all_goals
      have F3 : Fr (foot b v mb) w w3.drew := ((D1.out.2.mono (T := foot b v mb) (fun j _ e => .inr (.inr e))).trans Q3.out.2 (fun j e => .inl e)).drew
      have hs1 : w.heap.size ≤ w2.heap.size := Nat.le_trans D1.out.2.size S2.out.2.2.2.size
      have F3' := Lib.hid F3
      clear F3
    · with_reducible refine CL.out.mono ?_
      rintro e w4 ⟨rfl, v4, l4, q4, hf4, hn4⟩
      have F4 := Lib.hid (F3'.out.trans hf4 (fun j e => .inl (.inl e)))
      have Q4 := Lib.hid q4
      have N4 := Lib.hid hn4
      clear q4 hf4 hn4
      go_wp2_with fail
      go_end0
      exact ⟨rfl, v4, l4, m + 1, _, Q4.out, F4.out, fun g hg => .inr (Nat.le_trans F3'.out.size (N4.out g hg))⟩
    · go_end0
      exact ⟨rfl, _, _, m + 1, _, ⟨Q3.out.1.hp.below ((Below.refl _ _).drew), Q3.out.1.om, Q3.out.1.mN, Q3.out.1.lN, Q3.out.1.ag, Q3.out.1.ri, Q3.out.1.ho, Q3.out.1.sub, Q3.out.1.fit⟩, F3'.out, fun g hg => (HN3.out g hg).imp id (Nat.le_trans hs1)⟩
end Go.Proofs.Ytmbjkkoennadkaa
