/-
  New, Add, Remove.
-/
import Derived.Test.YtdjjmglocdhnhaaChMem
namespace Go.Proofs.Ytdjjmglocdhnhaa
open Go.RowKit Go.Maps
set_option linter.unusedVariables false
theorem new6 (w : World) : Calls Try.prog 6 #[] w fun e w' => ∃ cb R, e = .returned (.pointer (some ⟨cb, 0, none⟩)) ∧ Ch w' cb 0 [] R ∧ Below w.heap.size w w' ∧ ∀ j, R j → w.heap.size ≤ j := by
  go_enter Try.func6, Try.ntmps6
  have hm := run_makeMap (P := Try.prog) 49 w
  go_wp2_with fail
  go_ret
  have hob : ∀ o, ((w.alloc (.map #[] 0)).alloc o).heap[w.heap.size + 1]? = some o := fun o => by
    show ((w.heap.push _).push o)[w.heap.size + 1]? = some o
    rw [Array.getElem?_push, Array.size_push, if_pos rfl]
  have hno : ∀ s, ¬ HasS [] s := fun s ⟨x, hx, _⟩ => by simp at hx
  refine ⟨w.heap.size + 1, _, rfl, ⟨w.heap.size, 0, .map [], fun _ => 0, ⟨hob _, (World.ownsMap_made w Try.prog _ _).alloc _, Nat.le_refl _, fun s => ?_, fun s hs => absurd hs (hno s), fun s hs => absurd hs (hno s), fun s s' hs => absurd hs (hno s), fun s hs => absurd hs (hno s)⟩, rfl⟩, ((Below.refl _ _).alloc (Nat.le_refl _) _).alloc (by simp) _, ?_⟩
  · symm; exact decide_eq_false (hno s)
  · rintro j (rfl | rfl | ⟨s, hs, _⟩)
    · omega
    · exact Nat.le_refl _
    · exact absurd hs (hno s)
set_option maxRecDepth 100000 in
set_option maxHeartbeats 1000000 in
theorem add7 (cb N : Nat) (R : Nat → Prop) (L : List It) (s o : Int) (k : ByteArray) (w : World) (hs : (Lit.int .i64 s).wf = true) (ho : (Lit.int .i64 o).wf = true) (hk : k.size ≤ maxLen) (hN : N ≤ 100000) (hA : AscI L) (h : Ch w cb N L R) :
    Calls Try.prog 7 #[.pointer (some ⟨cb, 0, none⟩), .int .i64 s, .int .i64 o, .string k] w fun e w' => e = .returned (.tuple #[]) ∧ ChStep w w' cb (N + 1) (adI L s o k) R := by
  obtain ⟨ob, no, D, bl, p, rfl⟩ := h
  have c0 := blk_cell (i := 0) p.blk
  simp only [List.getElem?_toArray, List.getElem?_cons_zero] at c0
  have hbm := blk_lt p.blk
  have KS := Lib.hid (keyI hs)
  have KO := Lib.hid (keyI ho)
  have KE := Lib.hid (strE_mk hk)
  have HA := Lib.hid hA
  have hno := p.le
  have lk := p.look hs
  have eqn := fun (w : World) (r : Option Nat) => run_eql_map_nil (P := Try.prog) w 52 3 9 r mapI
  by_cases hh : HasS L s
  · obtain ⟨n, Di, hi, hn, ha⟩ := p.inn s hh
    have HI := Lib.hid hi
    have HAI := Lib.hid ha
    have P := Lib.hid p
    have HH := Lib.hid hh
    obtain ⟨b, hb⟩ : ∃ b, bl s = b := ⟨_, rfl⟩
    rw [if_pos hh, hb] at lk
    rw [hb] at HI
    have HB := Lib.hid hb
    clear hs ho hk hA p hi ha hh hb
    go_enter Try.func7, Try.ntmps7
    go_wp2_with (first
      | (at_mapUpdate; (refine wpList_mapUpdate_own _ rfl _ _ _ 52 rfl 3 9 intK mapI (plainElem Try.prog 9) b n Di rfl HI.out (by unfold maxLen; omega) _ _ (olit o) rfl rfl KO.out (sdat k) [] KE.out ?_); intro w1 hown1 hgrow1) | fail)
    go_end0
    have hb := HB.out
    subst hb
    exact ⟨rfl, P.out.add_has HA.out HH.out HI.out hn HAI.out hown1 hgrow1⟩
  · have P := Lib.hid p
    have HH := Lib.hid hh
    have HO := Lib.hid (p.own.alloc (.map #[] 0))
    have hm := run_makeMap (P := Try.prog) 52 w
    rw [if_neg hh] at lk
    have HT := Lib.hid ((p.own.tidy intK).isMap)
    have hob := p.own.lt
    have HS := Lib.hid hs
    have FB := Lib.hid p.blk
    clear hs ho hk hA p hh
    go_enter Try.func7, Try.ntmps7
    go_wp2_with (at_mapUpdate; refine Stop.out ?_)
    refine Stop.of (wpList_mapUpdate_own _ rfl _ _ _ 49 rfl 3 52 intK mapO mapR ob no D rfl HO.out (by unfold maxLen; omega) _ _ (olit s) rfl rfl KS.out (.held w.heap.size) [] rfl ?_)
    intro w1 hown1 hgrow1
    have OW := Lib.hid hown1
    have GW := Lib.hid hgrow1
    have lk2 := OMo.look_of hown1 HS.out (fun z => atKey_put_same HT.out (olit_key s) (.held w.heap.size) z)
    have OI := Lib.hid (show OMi w1 w.heap.size 0 (.map []) from (World.ownsMap_made w Try.prog 3 (plainElem Try.prog 9)).kept hgrow1 (fun e => by cases e; omega))
    have F1 : w1.heap[cb]? = some (.cells #[.map (some ob)] 51 (0, 0)) := (hgrow1.block cb (by simp; omega) (fun e => by cases e; exact P.out.cb_ne.1 rfl)).trans ((Below.heap_alloc _ _ _ hbm).trans FB.out)
    have d0 := blk_cell (i := 0) F1
    simp only [List.getElem?_toArray, List.getElem?_cons_zero] at d0
    have hb1 := blk_lt F1
    clear hown1 hgrow1 F1 lk hm c0
    go_wp2_with (first
      | (at_mapUpdate; (refine wpList_mapUpdate_own _ rfl _ _ _ 52 rfl 3 9 intK mapI (plainElem Try.prog 9) w.heap.size 0 (.map []) rfl OI.out (by unfold maxLen; omega) _ _ (olit o) rfl rfl KO.out (sdat k) [] KE.out ?_); intro w2 hown2 hgrow2) | fail)
    go_end0
    exact ⟨rfl, P.out.add_new HA.out HH.out OW.out GW.out hown2 hgrow2⟩
set_option maxRecDepth 100000 in
set_option maxHeartbeats 2000000 in
theorem remove12 (cb N : Nat) (R : Nat → Prop) (L : List It) (s o : Int) (w : World) (hs : (Lit.int .i64 s).wf = true) (ho : (Lit.int .i64 o).wf = true) (hN : N ≤ 100000) (hA : AscI L) (h : Ch w cb N L R) :
    Calls Try.prog 12 #[.pointer (some ⟨cb, 0, none⟩), .int .i64 s, .int .i64 o] w fun e w' => e = .returned (.bool (decide (HasO L s o))) ∧ ChStep w w' cb N (rmI L s o) R := by
  obtain ⟨ob, no, D, bl, p, rfl⟩ := h
  have c0 := blk_cell (i := 0) p.blk
  simp only [List.getElem?_toArray, List.getElem?_cons_zero] at c0
  have hbm := blk_lt p.blk
  have KS := Lib.hid (keyI hs)
  have KO := Lib.hid (keyI ho)
  have HA := Lib.hid hA
  have hno := p.le
  have lk := p.look hs
  by_cases hh : HasS L s
  · obtain ⟨n, Di, hi, hn, ha⟩ := p.inn s hh
    obtain ⟨v, lk2⟩ := OMi.look hi ha ho
    have HI := Lib.hid hi
    have HAI := Lib.hid ha
    have P := Lib.hid p
    have HH := Lib.hid hh
    obtain ⟨b, hb⟩ : ∃ b, bl s = b := ⟨_, rfl⟩
    rw [if_pos hh, hb] at lk
    rw [hb] at HI lk2
    have HB := Lib.hid hb
    by_cases hO : HasO L s o
    · have HO := Lib.hid hO
      rw [decide_eq_true hO] at lk2 ⊢
      obtain ⟨m, hm⟩ : ∃ m, (itsI (rmI L s o) s).length = m := ⟨_, rfl⟩
      have SZ := Lib.hid (show Maps.size (Di.del (olit o)) = m from by rw [← hm]; exact (ha.del (hi.tidy intK) hA o).size)
      have HM := Lib.hid hm
      clear hs ho hA p hi ha hh hb hO hm
      go_enter Try.func12, Try.ntmps12
      go_wp2_with (at_delete; refine Stop.out ?_)
      refine Stop.of (wpList_delete_own _ rfl _ _ 52 3 rfl 9 intK mapI (plainElem Try.prog 9) b n Di rfl HI.out _ (olit o) rfl KO.out ?_)
      intro w1 hown1 hturn1
      have OW := Lib.hid hown1
      have GW := Lib.hid hturn1.grown
      have hf : Fr (fun j => j = b) w w1 := .of_grown hturn1.grown (by rintro j e; cases e; rfl)
      have HF := Lib.hid hf
      have hcb : ¬ cb = b := fun e => P.out.cb_ne.2 s HH.out (e.trans HB.out.symm)
      have hobb : ¬ ob = b := fun e => P.out.ne s HH.out (HB.out.trans e.symm)
      have F1 := (hf.block cb hbm hcb).trans P.out.blk
      have OO := Lib.hid (show OMo w1 ob no D from om_fr P.out.own hf hobb)
      have d0 := blk_cell (i := 0) F1
      simp only [List.getElem?_toArray, List.getElem?_cons_zero] at d0
      have hb1 := blk_lt F1
      clear hown1 hturn1 hf F1 c0 lk lk2
      have hln := World.ownsMap.len OW.out mapI 3
      rw [SZ.out] at hln
      by_cases hm0 : m = 0
      · subst hm0
        have HM0 := Lib.hid (List.eq_nil_of_length_eq_zero HM.out)
        go_wp2_with (first
          | (at_delete; (refine wpList_delete_own _ rfl _ _ 49 3 rfl 52 intK mapO mapR ob no D rfl OO.out _ (olit s) rfl KS.out ?_); intro w2 hown2 hturn2) | fail)
        go_ret
        have hb := HB.out
        refine ⟨rfl, P.out.gone (S := fun j => j = b ∨ j = ob) (s := s) (fun j hj => hj.elim (fun e => .inr ⟨HH.out, e.trans hb.symm⟩) .inl) ((HF.out.mono (T := fun j => j = b ∨ j = ob) (fun j _ e => .inl e)).trans (T := fun j => j = ob) (.of_grown hturn2.grown (by rintro j e; cases e; rfl)) (fun j e => .inl (.inr e))) hown2 (fun s' => ?_) (fun s' hne => itsI_rm_other L o hne)⟩
        constructor
        · intro h1
          have hne : s' ≠ s := fun e => by
            subst e
            exact hasS_its.1 h1 HM0.out
          exact ⟨(hasS_rm_other hne).1 h1, hne⟩
        · rintro ⟨h1, h2⟩; exact (hasS_rm_other h2).2 h1
      · have hm1 : ((m : Int) == 0) = false := by simp; omega
        have HNE := Lib.hid (show itsI (rmI L s o) s ≠ [] from fun e => hm0 (by rw [← HM.out, e]; rfl))
        clear hm0
        go_wp2_with fail
        go_ret
        have hb := HB.out
        subst hb
        exact ⟨rfl, P.out.rm_some HA.out HH.out HI.out hn HAI.out OW.out GW.out HNE.out⟩
    · have HO := Lib.hid hO
      rw [decide_eq_false hO] at lk2 ⊢
      clear hs ho hA p hi ha hh hb hO
      go_enter Try.func12, Try.ntmps12
      go_wp2_with fail
      go_ret
      have e : rmI L s o = L := rmI_none (fun x hx h => HO.out ⟨x, mem_itsI.2 ⟨hx, h.1⟩, h.2⟩)
      rw [e]
      exact ⟨rfl, chfoot cb ob bl L, ⟨ob, no, D, bl, P.out, rfl⟩, Fr.refl _ _, fun j hj => .inl hj⟩
  · have P := Lib.hid p
    have HH := Lib.hid hh
    have hO : ¬ HasO L s o := fun ⟨x, hx, _⟩ => hh ⟨x, (mem_itsI.1 hx).1, (mem_itsI.1 hx).2⟩
    have HO := Lib.hid hO
    rw [if_neg hh] at lk
    have ln := Maps.look_nil (w := w) true intK mapI (zeroI w) (keyI ho)
    simp only [if_true] at ln
    rw [decide_eq_false hO]
    clear hs ho hA p hh hO
    go_enter Try.func12, Try.ntmps12
    go_wp2_with fail
    go_ret
    have e : rmI L s o = L := rmI_none (fun x hx h => HO.out ⟨x, mem_itsI.2 ⟨hx, h.1⟩, h.2⟩)
    rw [e]
    exact ⟨rfl, chfoot cb ob bl L, ⟨ob, no, D, bl, P.out, rfl⟩, Fr.refl _ _, fun j hj => .inl hj⟩
end Go.Proofs.Ytdjjmglocdhnhaa
