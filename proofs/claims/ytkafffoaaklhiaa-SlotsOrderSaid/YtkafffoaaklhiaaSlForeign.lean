/-
  slices.DeleteFunc at regions with slots.Foreign's literal; slots.Foreign.
-/
import Derived.Test.YtkafffoaaklhiaaSlDelete
namespace Go.Proofs.Ytkafffoaaklhiaa
open Go.RowKit
set_option linter.unusedVariables false
theorem idx_none (t : Lay) : ∀ (S : List Reg) (i : Nat), idxD t.id S i = -1 → forD t S = S
  | [], _, _ => rfl
  | r :: S, i, h => by
    unfold idxD at h
    split at h
    · omega
    · rename_i hne
      have := idx_none t S (i + 1) h
      unfold forD at *
      rw [List.filter_cons, if_pos (by simp [hne]), this]
theorem idx_some (t : Lay) : ∀ (S : List Reg) (i : Nat), idxD t.id S i ≠ -1 → ∃ k : Nat, idxD t.id S i = ((i + k : Nat) : Int) ∧ k < S.length ∧ forD t (S.take (k + 1)) = S.take k
  | [], i, h => by simp [idxD] at h
  | r :: S, i, h => by
    unfold idxD at h ⊢
    split
    · rename_i he
      refine ⟨0, by simp, by simp, ?_⟩
      unfold forD
      simp [he]
    · rename_i hne
      rw [if_neg hne] at h
      obtain ⟨k, h1, h2, h3⟩ := idx_some t S (i + 1) h
      refine ⟨k + 1, by rw [h1]; congr 1; omega, by simpa using h2, ?_⟩
      unfold forD at *
      rw [List.take_succ_cons, List.filter_cons, if_pos (by simp [hne]), h3, List.take_succ_cons]
/-- what DeleteFunc's loop keeps -/
structure DelW (w wr : World) (t : Lay) (tb g n cap : Nat) (S C A : List Reg) (j : Nat) : Prop where
  own : wr.ownsRow 0 36 10 (.slice (some ⟨g, 0, none⟩) n cap) n (regC C)
  fr : Fr (fun k => k = g) w wr
  tgt : wr.cell? ⟨tb, 0, none⟩ = some (.int .i64 t.id)
  ne : tb ≠ g
  cl : C.length = n
  pre : C.take A.length = A
  post : C.drop j = S.drop j
  av : A = forD t (S.take j)
  lt : A.length < j
  jn : j ≤ n
theorem DelW.below {w wr w' : World} {t : Lay} {tb g n cap j : Nat} {S C A : List Reg} (h : DelW w wr t tb g n cap S C A j) (hb : Below wr.heap.size wr w') : DelW w w' t tb g n cap S C A j :=
  ⟨own_below h.own hb, h.fr.trans (.of_below (S := fun _ => False) hb) (fun _ f => f.elim), by rw [hb.cell (p := ⟨tb, 0, none⟩) (World.block_lt_of_cell? _ _ h.tgt)]; exact h.tgt, h.ne, h.cl, h.pre, h.post, h.av, h.lt, h.jn⟩
theorem drop_next {C S : List Reg} {j : Nat} (h : C.drop j = S.drop j) : C.drop (j + 1) = S.drop (j + 1) := by
  have := congrArg (List.drop 1) h
  simpa [List.drop_drop] using this
theorem DelW.skip {w wr : World} {t : Lay} {tb g n cap j : Nat} {S C A : List Reg} {r : Reg} (h : DelW w wr t tb g n cap S C A j) (hr : S[j]? = some r) (hd : r.l.id = t.id) (hjn : j < n) : DelW w wr t tb g n cap S C A (j + 1) :=
  ⟨h.own, h.fr, h.tgt, h.ne, h.cl, h.pre, drop_next h.post, by rw [forD_step t S j r hr, if_neg (by simp [hd])]; exact h.av, by have := h.lt; omega, by omega⟩
theorem DelW.keep {w wr : World} {t : Lay} {tb g n cap j : Nat} {S C A : List Reg} {r : Reg} (h : DelW w wr t tb g n cap S C A j) (hr : S[j]? = some r) (hd : r.l.id ≠ t.id) (hjn : j < n) : DelW w (set10 wr g A.length r) t tb g n cap S (C.set A.length r) (A ++ [r]) (j + 1) := by
  obtain ⟨o1, f1⟩ := own_set10 h.own A.length r
  have hlt := h.lt
  have hcl := h.cl
  refine ⟨o1, h.fr.trans f1 (fun _ e => .inl e), ?_, h.ne, by rw [List.length_set]; exact hcl, ?_, ?_, by rw [forD_step t S j r hr, if_pos (by simp [hd]), ← h.av], by simp; omega, by omega⟩
  · rw [World.cell?_of_block (w := wr) (a := ⟨tb, 0, none⟩) (f1.block tb (World.block_lt_of_cell? _ _ h.tgt) h.ne)]; exact h.tgt
  · rw [List.length_append, List.length_singleton, List.take_add_one, List.getElem?_set, if_pos rfl, if_pos (by omega)]
    have e : (C.set A.length r).take A.length = C.take A.length := by
      refine List.ext_getElem? fun i => ?_
      rw [List.getElem?_take, List.getElem?_take]
      split
      · rw [List.getElem?_set, if_neg (by omega)]
      · rfl
    rw [e, h.pre]; rfl
  · have e : (C.set A.length r).drop (j + 1) = C.drop (j + 1) := by
      refine List.ext_getElem? fun i => ?_
      rw [List.getElem?_drop, List.getElem?_drop, List.getElem?_set, if_neg (by omega)]
    rw [e]; exact drop_next h.post
set_option maxRecDepth 100000 in
set_option maxHeartbeats 8000000 in
theorem fordelete38 (t : Lay) (tb g n cap : Nat) (S : List Reg) (w : World) (hl : S.length = n) (hn : n < 20) (hown : w.ownsRow 0 36 10 (.slice (some ⟨g, 0, none⟩) n cap) n (regC S)) (ht : w.cell? ⟨tb, 0, none⟩ = some (.int .i64 t.id)) (hne : tb ≠ g) :
    Calls Try.prog 38 #[.slice (some ⟨g, 0, none⟩) n cap, .func (.func 39) #[] #[.pointer (some ⟨tb, 0, none⟩)]] w
      fun e w' => ∃ m c, e = .returned (.slice (some ⟨g, 0, none⟩) m c) ∧ m = (forD t S).length ∧ Vals w' (some ⟨g, 0, none⟩) (regC (forD t S)) ∧ Fr (fun k => k = g) w w' := by
  obtain ⟨_, _, hvs, hv, hnc, hcm, _⟩ := ownsRow_vals hown
  cases hvs
  have IX := Lib.hid (forindex46 (some ⟨g, 0, none⟩) n cap S t.id tb w hl (by omega) hv ht)
  have HL := Lib.hid hl
  have HO := Lib.hid hown
  have HT := Lib.hid ht
  have hcI : (n : Int) ≤ cap := by omega
  have hcI2 : (cap : Int) ≤ 9223372036854775807 := by unfold maxLen at hcm; omega
  clear hv hl hown ht
  by_cases h1 : idxD t.id S 0 = -1
  · have E := Lib.hid (idx_none t S 0 h1)
    rw [h1] at IX
    clear h1
    go_enter Try.func38, Try.ntmps38
    go_wp2_with fail
    with_reducible refine IX.out.mono ?_
    rintro e w1 ⟨rfl, hb1⟩
    obtain ⟨_, _, hvs, hv, _⟩ := ownsRow_vals (own_below HO.out hb1)
    cases hvs
    have V1 := Lib.hid hv
    have B1 := Lib.hid hb1
    clear hv hb1
    go_wp2_with fail
    go_ret
    exact ⟨n, cap, rfl, by rw [E.out, HL.out], by rw [E.out]; exact V1.out, .of_below B1.out⟩
  · obtain ⟨k, k1, k2, k3⟩ := idx_some t S 0 h1
    rw [Nat.zero_add] at k1
    rw [k1] at IX
    rw [HL.out] at k2
    have K3 := Lib.hid k3
    clear h1 k1 k3
    go_enter Try.func38, Try.ntmps38
    go_wp2_with fail
    with_reducible refine IX.out.mono ?_
    rintro e w1 ⟨rfl, hb1⟩
    have D1 := Lib.hid (show DelW w w1 t tb g n cap S S (S.take k) (k + 1) from
      ⟨own_below HO.out hb1, .of_below hb1, by rw [hb1.cell (p := ⟨tb, 0, none⟩) (World.block_lt_of_cell? _ _ HT.out)]; exact HT.out, hne, HL.out, by rw [List.length_take, HL.out, Nat.min_eq_left (by omega)], rfl, K3.out.symm, by rw [List.length_take]; omega, by omega⟩)
    have AK := Lib.hid (show (S.take k).length = k from by rw [List.length_take, HL.out]; omega)
    clear hb1 IX
    go_wp2_with fail
    go_loopg [5, 6, 7] (n - (k + 1)) (fun gk iv jv _ wr => ∃ (j : Nat) (C A : List Reg), iv = .int .i64 (A.length : Int) ∧ jv = .int .i64 (j : Int) ∧ gk = n - j ∧ DelW w wr t tb g n cap S C A j)
    case atStart => exact ⟨k + 1, S, S.take k, by rw [AK.out], by go_num, rfl, D1.out⟩
    case round =>
      obtain ⟨j, C, A, rfl, rfl, hgk, hd⟩ := hrel
      have GK := Lib.hid hgk
      have HD := Lib.hid hd
      have hjn := hd.jn
      have hAj := hd.lt
      clear hgk hd D1
      obtain ⟨i, hi⟩ : ∃ i, A.length = i := ⟨_, rfl⟩
      have AI := Lib.hid hi
      rw [hi] at hAj ⊢
      have hin : (i : Int) < n := by omega
      clear hi
      by_cases hlt : j < n
      · obtain ⟨r, hr⟩ : ∃ r, S[j]? = some r := ⟨_, List.getElem?_eq_getElem (by rw [HL.out]; exact hlt)⟩
        have hCj : C[j]? = some r := by
          have := congrArg (fun l => l[0]?) HD.out.post
          simp only [List.getElem?_drop, Nat.add_zero] at this
          rw [this]; exact hr
        obtain ⟨⟨c0, c1, c2, c3, c4, c5, c6, c7, c8, c9⟩, hfz⟩ := own_reg HD.out.own j r hCj
        have hjI : (j : Int) < n := by omega
        have D2 := Lib.hid (HD.out.below ((Below.refl _ _).alloc (Nat.le_refl _) (.cells #[.int .i64 r.ver, .int .i64 r.slot, .int .i64 r.lay, .int .i64 r.seq, .int .i64 r.tail, .int .i64 r.now, .int .i64 r.l.id, .int .i64 r.l.ver, .int .i64 r.l.rs, .int .i64 r.l.rg] 36)))
        have FL := Lib.hid (forlit39 r t.id tb _ D2.out.tgt)
        have HR := Lib.hid hr
        clear hr hCj
        go_wp2_with fail
        with_reducible refine FL.out.mono ?_
        rintro e w2 ⟨rfl, hb2⟩
        have D3 := Lib.hid (D2.out.below hb2)
        have hx2 : w2.heap[wr.heap.size]? = some (.cells #[.int .i64 r.ver, .int .i64 r.slot, .int .i64 r.lay, .int .i64 r.seq, .int .i64 r.tail, .int .i64 r.now, .int .i64 r.l.id, .int .i64 r.l.ver, .int .i64 r.l.rs, .int .i64 r.l.rg] 36 (0, 0)) := by
          rw [hb2.block wr.heap.size (by simp)]
          show (wr.heap.push _)[wr.heap.size]? = _
          simp
        clear hb2 c0 c1 c2 c3 c4 c5 c6 c7 c8 c9 hfz D2 FL
        by_cases hid : r.l.id = t.id
        · have hbe : (r.l.id == t.id) = true := by simp [hid]
          have D4 := Lib.hid (D3.out.skip HR.out hid hlt)
          rw [hbe]
          clear hid hx2
          go_wp2_with fail
          go_roundg (n - (j + 1))
          case measure => have := GK.out; omega
          case rel => exact ⟨j + 1, C, A, by rw [AI.out], by go_num, rfl, D4.out⟩
        · have hbe : (r.l.id == t.id) = false := by simp [hid]
          have D4 := Lib.hid (D3.out.keep HR.out hid hlt)
          rw [AI.out] at D4
          have y0 := blk_cell (i := 0) hx2; have y1 := blk_cell (i := 1) hx2; have y2 := blk_cell (i := 2) hx2; have y3 := blk_cell (i := 3) hx2; have y4 := blk_cell (i := 4) hx2; have y5 := blk_cell (i := 5) hx2; have y6 := blk_cell (i := 6) hx2; have y7 := blk_cell (i := 7) hx2; have y8 := blk_cell (i := 8) hx2; have y9 := blk_cell (i := 9) hx2
          simp only [List.getElem?_toArray, List.getElem?_cons_zero, List.getElem?_cons_succ] at y0 y1 y2 y3 y4 y5 y6 y7 y8 y9
          obtain ⟨x, hx⟩ : ∃ x, C[i]? = some x := ⟨_, List.getElem?_eq_getElem (by rw [HD.out.cl]; omega)⟩
          obtain ⟨⟨c0, c1, c2, c3, c4, c5, c6, c7, c8, c9⟩, hfz⟩ := own_reg D3.out.own i x hx
          rw [hbe]
          clear hid hx2 hx
          go_upto_region 10 with fail
          obtain ⟨W, hW⟩ : ∃ W, set10 w2 g i r = W := ⟨_, rfl⟩
          rw [hW] at D4
          unfold set10 at hW
          rw [hW]
          clear hW y0 y1 y2 y3 y4 y5 y6 y7 y8 y9 c0 c1 c2 c3 c4 c5 c6 c7 c8 c9 hfz
          go_wp2_with fail
          go_roundg (n - (j + 1))
          case measure => have := GK.out; omega
          case rel => exact ⟨j + 1, _, A ++ [r], by rw [List.length_append, AI.out]; go_num, by go_num, rfl, D4.out⟩
      · have hjn2 : j = n := by omega
        subst hjn2
        obtain ⟨w9, hcl, hf9, hv9⟩ := run_clear10 wr g i (j - i) (cap - i) j cap 0 C (by omega) (by omega) HD.out.own HD.out.cl
        have FIN := Lib.hid (show i = (forD t S).length ∧ Vals w9 (some ⟨g, 0, none⟩) (regC (forD t S)) from by
          have e := HD.out.av
          rw [List.take_of_length_le (by rw [HL.out]; exact Nat.le_refl _)] at e
          have p := HD.out.pre
          rw [AI.out] at p
          rw [← e, ← AI.out]
          refine ⟨rfl, ?_⟩
          rw [p] at hv9
          exact hv9)
        have F9 := Lib.hid (HD.out.fr.trans hf9 (fun _ e => .inl e))
        have hiI2 : (i : Int) ≤ j := by omega
        clear hv9 hf9 hlt GK
        go_wp2_with fail
        go_ret
        exact ⟨i, cap, rfl, FIN.out.1, FIN.out.2, F9.out⟩
end Go.Proofs.Ytkafffoaaklhiaa
