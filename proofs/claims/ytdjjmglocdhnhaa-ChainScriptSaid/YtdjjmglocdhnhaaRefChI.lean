/-
  The reference's Items and Seqs; the law's own comparisons.
-/
import Derived.Test.YtdjjmglocdhnhaaRefCh
import Derived.Test.YtdjjmglocdhnhaaChItems
import Derived.Deep.LoopGhost
import Derived.Deep.QuietTactic
namespace Go.Proofs.Ytdjjmglocdhnhaa
open Go.RowKit
set_option linter.unusedVariables false
structure OuG (w wr : World) (e : TypeId) (C : Nat) (v : Value) (n : Nat) (cs : List Value) : Prop where
  bel : Below w.heap.size w wr
  own : wr.ownsRow w.heap.size e C v n cs
theorem OuG.alloc {w wr : World} {e : TypeId} {C n : Nat} {v : Value} {cs : List Value} (h : OuG w wr e C v n cs) (o : Obj) : OuG w (wr.alloc o) e C v n cs := ⟨h.bel.alloc h.bel.size o, h.own.alloc _⟩
theorem OuG.drewN {w wr : World} {e : TypeId} {C n : Nat} {v : Value} {cs : List Value} (h : OuG w wr e C v n cs) (m : Nat) : OuG w (wr.drewN m) e C v n cs := ⟨below_drewN h.bel m, own_fr (S := fun _ => False) h.own (.of_below (below_drewN (Below.refl _ _) m)) (fun _ _ f => f)⟩
theorem OuG.app {w wr w1 : World} {e : TypeId} {C n : Nat} {v v1 : Value} {cs ds : List Value} {o : Obj} (h : OuG w wr e C v n cs) (own1 : w1.ownsRow w.heap.size e C v1 (n + 1) (cs ++ ds)) (g : (wr.alloc o).grownBy w1 v.ownBlock) : OuG w w1 e C v1 (n + 1) (cs ++ ds) :=
  ⟨(h.bel.alloc h.bel.size o).grown g (h.bel.alloc h.bel.size o).size (fun j hj => (h.own.lt j hj).1), own1⟩
theorem its_yes {L : List It} {k : Nat} {x : It} {s : Int} (h : L[k]? = some x) (hs : x.seq = s) : itsI (L.take (k + 1)) s = itsI (L.take k) s ++ [x] := by
  unfold itsI
  rw [take_snoc' L k x h, List.filter_append, List.filter_cons, if_pos (by simp [hs])]; rfl
theorem its_no {L : List It} {k : Nat} {x : It} {s : Int} (h : L[k]? = some x) (hs : x.seq ≠ s) : itsI (L.take (k + 1)) s = itsI (L.take k) s := by
  unfold itsI
  rw [take_snoc' L k x h, List.filter_append, List.filter_cons, if_neg (by simp [hs])]; simp
/-- what the reference's Items gives -/
def RItemsE (w : World) (L : List It) (s : Int) (e : Ending) (w' : World) : Prop :=
  ∃ v, e = .returned v ∧ w'.ownsRow w.heap.size 43 3 v (itsI L s).length ((itsI L s).flatMap itC3) ∧ Below w.heap.size w w'
theorem it3_one' (x : It) : ∀ u ∈ [Value.int .i64 x.seq, .int .i64 x.off, .string x.key], u.oneCell' = true := by
  intro u hu
  simp only [List.mem_cons, List.not_mem_nil, or_false] at hu
  rcases hu with rfl | rfl | rfl <;> rfl
set_option maxRecDepth 100000 in
set_option maxHeartbeats 4000000 in
theorem ritems15 (bm : Nat) (R : Nat → Prop) (L : List It) (s : Int) (w : World) (hL : L.length ≤ 1000) (h : RC w bm L R) :
    Calls Try.prog 15 #[.pointer (some ⟨bm, 0, none⟩), .int .i64 s] w (RItemsE w L s) := by
  obtain ⟨i0, hi, hz0, hz1, hz2⟩ := info_parts refinfo
  have I1 := Lib.hid hi; have I2 := Lib.hid hz0; have I3 := Lib.hid hz1; have I4 := Lib.hid hz2
  obtain ⟨a, cap, p, -⟩ := h
  have c0 := blk_cell (i := 0) p.blk
  simp only [List.getElem?_toArray, List.getElem?_cons_zero] at c0
  have P := Lib.hid p
  have hbm := blk_lt p.blk
  have hle := p.le
  have hmax := p.max
  unfold maxLen at hmax
  obtain ⟨n, hn⟩ : ∃ n, L.length = n := ⟨_, rfl⟩
  have HN := Lib.hid hn
  rw [hn] at c0 hle hL
  clear p hn hi hz0 hz1 hz2
  go_enter Try.func15, Try.ntmps15
  go_wp2_with fail
  go_loopg [5, 7, 13] n (fun gk ov _ kv wr => ∃ (k : Nat) (v : Value), k ≤ n ∧ v = ov ∧ kv = .int .i64 k ∧ gk + k = n ∧ OuG w wr 43 3 v (itsI (L.take k) s).length ((itsI (L.take k) s).flatMap itC3))
  case atStart => exact ⟨0, _, by omega, rfl, rfl, by omega, ⟨Below.refl _ _, own_nil _ _ _ _⟩⟩
  case round =>
    obtain ⟨k, v, hk, rfl, rfl, hgk, ou⟩ := hrel
    have GK := Lib.hid hgk
    have OU := Lib.hid ou
    clear hgk
    by_cases hlt : k < n
    · obtain ⟨x, hx⟩ : ∃ x, L[k]? = some x := ⟨_, List.getElem?_eq_getElem (by have := HN.out; omega)⟩
      obtain ⟨g, off, rfl, hg, e0, e1, e2⟩ := P.out.item k x hx
      have hcc := bcell ou.bel
      have e0 := (hcc.1 g (off + k * 3) hg).trans e0
      have e1 := (hcc.1 g (off + k * 3 + 1) hg).trans e1
      have e2 := (hcc.1 g (off + k * 3 + 2) hg).trans e2
      have hg2 := Nat.lt_of_lt_of_le hg ou.bel.size
      have HX := Lib.hid hx
      have hkk : (k : Int) < n := by omega
      have OU2 := Lib.hid (ou.alloc (.cells #[.int .i64 x.seq, .int .i64 x.off, .string x.key] 43))
      clear hx hcc ou
      by_cases hs : x.seq = s
      · have t1 : (x.seq == s) = true := by simp [hs]
        have FL := Lib.hid (its_yes HX.out hs)
        obtain ⟨m, hm⟩ : ∃ m, (itsI (L.take k) s).length = m := ⟨_, rfl⟩
        have hmk : m ≤ k := by
          rw [← hm]
          refine Nat.le_trans (List.length_filter_le _ _) ?_
          rw [List.length_take]; omega
        have HM := Lib.hid hm
        have OWH := OU2.out.own
        rw [hm] at OWH
        have OW := Lib.hid OWH
        clear hs hm OWH
        go_wp2_with (at_builtin; refine Stop.out ?_)
        refine Stop.of (wpList_app rfl _ _ 36 rfl w.heap.size 43 i0 (.agg #[.int .i64 0, .int .i64 0, .string ByteArray.empty]) 3 32 Try.underlying36 I1.out I2.out I3.out I4.out rfl (by decide) v m ((itsI (L.take k) s).flatMap itC3) rfl (OW.out.alloc _) _ 1 [.int .i64 x.seq, .int .i64 x.off, .string x.key] rfl (src_lit #[.int .i64 x.seq, .int .i64 x.off, .string x.key] (0, 0) (heap_two _ _ _) rfl) (it3_one' x) (by unfold maxLen; omega) (by omega) (by have := OU2.out.bel.size; simp at this ⊢; omega) ?_)
        intro v2 w2 hown2 hg2'
        have O3 := Lib.hid (show OuG w w2 43 3 v2 (itsI (L.take (k + 1)) s).length ((itsI (L.take (k + 1)) s).flatMap itC3) from by
          rw [FL.out, List.length_append, List.flatMap_append, HM.out]
          have e : [x].flatMap itC3 = [.int .i64 x.seq, .int .i64 x.off, .string x.key] := by simp [itC3]
          rw [e]
          have O2 := OU2.out
          rw [HM.out] at O2
          exact O2.app hown2 hg2')
        clear hown2 hg2' e0 e1 e2
        go_wp2_with fail
        go_roundg (n - (k + 1))
        case measure => have := GK.out; omega
        case rel => exact ⟨k + 1, _, by omega, rfl, by go_num, by omega, O3.out⟩
      · have t1 : (x.seq == s) = false := by simp [hs]
        have FL := Lib.hid (its_no HX.out hs)
        clear hs
        go_wp2_with fail
        go_roundg (n - (k + 1))
        case measure => have := GK.out; omega
        case rel => exact ⟨k + 1, _, by omega, rfl, by go_num, by omega, by rw [FL.out]; exact OU2.out⟩
    · obtain rfl : k = n := by omega
      have O2 := Lib.hid (show OuG w wr 43 3 v (itsI L s).length ((itsI L s).flatMap itC3) from by
        have := OU.out
        rw [List.take_of_length_le (by have := HN.out; omega)] at this
        exact this)
      clear ou
      go_wp2_with fail
      go_ret
      exact ⟨v, rfl, O2.out.own, O2.out.bel⟩
def RSeqsE (w : World) (L : List It) (e : Ending) (w' : World) : Prop :=
  ∃ v, e = .returned v ∧ w'.ownsRow w.heap.size 3 1 v (seqI L).length ((seqI L).map (Value.int .i64)) ∧ Below w.heap.size w w'
theorem seq_app {L : List It} {k : Nat} {x : It} (hA : AscI L) (h : L[k]? = some x) (hn : (seqI (L.take k)).getLast? ≠ some x.seq) : seqI (L.take (k + 1)) = seqI (L.take k) ++ [x.seq] := by
  rw [take_snoc' L k x h, seqI_snoc (by rw [← take_snoc' L k x h]; exact List.Pairwise.sublist (List.take_sublist _ _) hA), if_neg hn]
theorem seq_keep {L : List It} {k : Nat} {x : It} (hA : AscI L) (h : L[k]? = some x) (hn : (seqI (L.take k)).getLast? = some x.seq) : seqI (L.take (k + 1)) = seqI (L.take k) := by
  rw [take_snoc' L k x h, seqI_snoc (by rw [← take_snoc' L k x h]; exact List.Pairwise.sublist (List.take_sublist _ _) hA), if_pos hn]
theorem intinfo : (Try.prog.info? 3).map (fun i => (i.zero, i.size, i.bytes)) = some (some (.int .i64 0), 1, 8) := by kernel_rfl
set_option maxRecDepth 100000 in
set_option maxHeartbeats 4000000 in
theorem rseqs18 (bm : Nat) (R : Nat → Prop) (L : List It) (w : World) (hL : L.length ≤ 1000) (hA : AscI L) (h : RC w bm L R) :
    Calls Try.prog 18 #[.pointer (some ⟨bm, 0, none⟩)] w (RSeqsE w L) := by
  obtain ⟨i0, hi, hz0, hz1, hz2⟩ := info_parts intinfo
  have I1 := Lib.hid hi; have I2 := Lib.hid hz0; have I3 := Lib.hid hz1; have I4 := Lib.hid hz2
  obtain ⟨a, cap, p, -⟩ := h
  have c0 := blk_cell (i := 0) p.blk
  simp only [List.getElem?_toArray, List.getElem?_cons_zero] at c0
  have P := Lib.hid p
  have HA := Lib.hid hA
  have hbm := blk_lt p.blk
  have hle := p.le
  have hmax := p.max
  unfold maxLen at hmax
  obtain ⟨n, hn⟩ : ∃ n, L.length = n := ⟨_, rfl⟩
  have HN := Lib.hid hn
  rw [hn] at c0 hle hL
  clear p hn hi hz0 hz1 hz2 hA
  go_enter Try.func18, Try.ntmps18
  go_wp2_with fail
  go_loopg [3, 5, 11] n (fun gk ov _ kv wr => ∃ (k : Nat) (v : Value), k ≤ n ∧ v = ov ∧ kv = .int .i64 k ∧ gk + k = n ∧ OuG w wr 3 1 v (seqI (L.take k)).length ((seqI (L.take k)).map (Value.int .i64)))
  case atStart => exact ⟨0, _, by omega, rfl, rfl, by omega, ⟨Below.refl _ _, own_nil _ _ _ _⟩⟩
  case round =>
    obtain ⟨k, v, hk, rfl, rfl, hgk, ou⟩ := hrel
    have GK := Lib.hid hgk
    have OU := Lib.hid ou
    clear hgk
    by_cases hlt : k < n
    · obtain ⟨x, hx⟩ : ∃ x, L[k]? = some x := ⟨_, List.getElem?_eq_getElem (by have := HN.out; omega)⟩
      obtain ⟨g, off, rfl, hg, e0, e1, e2⟩ := P.out.item k x hx
      have hcc := bcell ou.bel
      have e0 := (hcc.1 g (off + k * 3) hg).trans e0
      have e1 := (hcc.1 g (off + k * 3 + 1) hg).trans e1
      have e2 := (hcc.1 g (off + k * 3 + 2) hg).trans e2
      have hg2 := Nat.lt_of_lt_of_le hg ou.bel.size
      have HX := Lib.hid hx
      have hkk : (k : Int) < n := by omega
      have OU2 := Lib.hid (ou.alloc (.cells #[.int .i64 x.seq, .int .i64 x.off, .string x.key] 43))
      have BX := Lib.hid (heap_alloc_new wr (.cells #[.int .i64 x.seq, .int .i64 x.off, .string x.key] 43))
      obtain ⟨q, hq⟩ : ∃ q, seqI (L.take k) = q := ⟨_, rfl⟩
      have HQ := Lib.hid hq
      have hqk : q.length ≤ k := by
        rw [← hq]
        refine Nat.le_trans (seqI_length_le _) ?_
        rw [List.length_take]; omega
      rw [hq] at OU2 OU
      have OW := OU2.out.own
      obtain ⟨va, vc, hv, hvals, hvl, hvm, -⟩ := ownsRow_vals OW
      unfold maxLen at hvm
      subst hv
      obtain ⟨m, hm⟩ : ∃ m, q.length = m := ⟨_, rfl⟩
      have HM := Lib.hid hm
      rw [hm] at hqk hvl OU2 OW ⊢
      have OWH := Lib.hid OW
      clear hx hcc ou hq hm OW
      by_cases hm0 : m = 0
      · subst hm0
        have HNE := Lib.hid (show (seqI (L.take k)).getLast? ≠ some x.seq from by
          rw [HQ.out, List.eq_nil_of_length_eq_zero HM.out]; simp)
        have FL := Lib.hid (seq_app HA.out HX.out HNE.out)
        clear hvals
        go_wp2_with fail
        go_quiet (fail)
        obtain ⟨w5, hw5⟩ : ∃ w5, (wr.alloc (.cells #[.int .i64 x.seq, .int .i64 x.off, .string x.key] 43)).drewN nq = w5 := ⟨_, rfl⟩
        have O5 := Lib.hid (show OuG w w5 3 1 (.slice va 0 vc) 0 (q.map (Value.int .i64)) from by rw [← hw5]; exact OU2.out.drewN nq)
        have hx5 : w5.heap[wr.heap.size]? = some (.cells #[.int .i64 x.seq, .int .i64 x.off, .string x.key] 43 (0, 0)) := by rw [← hw5]; exact BX.out
        have x0 := blk_cell (i := 0) hx5
        simp only [List.getElem?_toArray, List.getElem?_cons_zero] at x0
        have hl5 := blk_lt hx5
        rw [hw5]
        clear hw5 hx5
        go_wp2_with (at_builtin; refine Stop.out ?_)
        refine Stop.of (wpList_app rfl _ _ 45 rfl w.heap.size 3 i0 (.int .i64 0) 1 8 Try.underlying45 I1.out I2.out I3.out I4.out rfl (by decide) (.slice va 0 vc) 0 (q.map (Value.int .i64)) rfl (O5.out.own.alloc _) _ 1 [.int .i64 x.seq] rfl (src_lit #[.int .i64 x.seq] (0, 0) (heap_alloc_new _ _) rfl) (by simp; rfl) (by unfold maxLen; omega) (by omega) (by have := O5.out.bel.size; simp at this ⊢; omega) ?_)
        intro v2 w2 hown2 hg2'
        have O3 := Lib.hid (show OuG w w2 3 1 v2 (seqI (L.take (k + 1))).length ((seqI (L.take (k + 1))).map (Value.int .i64)) from by
          rw [FL.out, List.length_append, List.map_append, HQ.out, HM.out]
          exact O5.out.app hown2 hg2')
        clear hown2 hg2' e0 e1 e2
        go_wp2_with fail
        go_roundg (n - (k + 1))
        case measure => have := GK.out; omega
        case rel => exact ⟨k + 1, _, by omega, rfl, by go_num, by omega, O3.out⟩
      · obtain ⟨m', rfl⟩ : ∃ m', m = m' + 1 := ⟨m - 1, by omega⟩
        obtain ⟨z, hz⟩ : ∃ z, q[m']? = some z := ⟨_, List.getElem?_eq_getElem (by have := HM.out; omega)⟩
        obtain ⟨gb, ob, rfl, hgb, hcz⟩ := hvals.at m' (v := .int .i64 z) (by rw [List.getElem?_map, hz]; rfl)
        have hw1 : IntKind.i64.wrap (m' : Int) = (m' : Int) := IntWalk.i64_in _ (by omega)
        have hm1 : ((m' : Int) + 1 == 0) = false := by simp; omega
        have hmm : (m' : Int) < (m' : Int) + 1 := by omega
        have hm00 : (0 : Int) ≤ (m' : Int) := by omega
        have hlast : q.getLast? = some z := by rw [List.getLast?_eq_getElem?, HM.out]; exact hz
        have HLA := Lib.hid hlast
        clear hvals hz hlast hm0
        have x0 := blk_cell (i := 0) BX.out
        simp only [List.getElem?_toArray, List.getElem?_cons_zero] at x0
        by_cases hzx : z = x.seq
        · have t1 : (z == x.seq) = true := by simp [hzx]
          have t2 : (z != x.seq) = false := by simp [hzx]
          have FL := Lib.hid (seq_keep HA.out HX.out (by rw [HQ.out, HLA.out, hzx]))
          clear hzx
          go_wp2_with fail
          go_quiet (fail)
          have O5 := Lib.hid (OU2.out.drewN nq)
          go_wp2_with fail
          go_roundg (n - (k + 1))
          case measure => have := GK.out; omega
          case rel => exact ⟨k + 1, _, by omega, rfl, by go_num, by omega, by rw [FL.out, HQ.out, HM.out]; exact O5.out⟩
        · have t1 : (z == x.seq) = false := by simp [hzx]
          have t2 : (z != x.seq) = true := by simp [hzx]
          have FL := Lib.hid (seq_app HA.out HX.out (by rw [HQ.out, HLA.out]; intro e; injection e with e; exact hzx e))
          clear hzx
          go_wp2_with fail
          go_quiet (fail)
          obtain ⟨w5, hw5⟩ : ∃ w5, (wr.alloc (.cells #[.int .i64 x.seq, .int .i64 x.off, .string x.key] 43)).drewN nq = w5 := ⟨_, rfl⟩
          have O5 := Lib.hid (show OuG w w5 3 1 (.slice (some ⟨gb, ob, none⟩) (m' + 1) vc) (m' + 1) (q.map (Value.int .i64)) from by rw [← hw5]; exact OU2.out.drewN nq)
          have hx5 : w5.heap[wr.heap.size]? = some (.cells #[.int .i64 x.seq, .int .i64 x.off, .string x.key] 43 (0, 0)) := by rw [← hw5]; exact BX.out
          clear x0 hcz
          have x0 := blk_cell (i := 0) hx5
          simp only [List.getElem?_toArray, List.getElem?_cons_zero] at x0
          have hl5 := blk_lt hx5
          rw [hw5]
          clear hw5 hx5
          go_wp2_with (at_builtin; refine Stop.out ?_)
          refine Stop.of (wpList_app rfl _ _ 45 rfl w.heap.size 3 i0 (.int .i64 0) 1 8 Try.underlying45 I1.out I2.out I3.out I4.out rfl (by decide) (.slice (some ⟨gb, ob, none⟩) (m' + 1) vc) (m' + 1) (q.map (Value.int .i64)) rfl (O5.out.own.alloc _) _ 1 [.int .i64 x.seq] rfl (src_lit #[.int .i64 x.seq] (0, 0) (heap_alloc_new _ _) rfl) (by simp; rfl) (by unfold maxLen; omega) (by omega) (by have := O5.out.bel.size; simp at this ⊢; omega) ?_)
          intro v2 w2 hown2 hg2'
          have O3 := Lib.hid (show OuG w w2 3 1 v2 (seqI (L.take (k + 1))).length ((seqI (L.take (k + 1))).map (Value.int .i64)) from by
            rw [FL.out, List.length_append, List.map_append, HQ.out, HM.out]
            exact O5.out.app hown2 hg2')
          clear hown2 hg2' e0 e1 e2
          go_wp2_with fail
          go_roundg (n - (k + 1))
          case measure => have := GK.out; omega
          case rel => exact ⟨k + 1, _, by omega, rfl, by go_num, by omega, O3.out⟩
    · obtain rfl : k = n := by omega
      have O2 := Lib.hid (show OuG w wr 3 1 v (seqI L).length ((seqI L).map (Value.int .i64)) from by
        have := OU.out
        rw [List.take_of_length_le (by have := HN.out; omega)] at this
        exact this)
      clear ou
      go_wp2_with fail
      go_ret
      exact ⟨v, rfl, O2.out.own, O2.out.bel⟩
theorem Vals.it3 {w : World} {a : Option Addr} {l : List It} (h : Vals w a (l.flatMap itC3)) (i : Nat) (x : It) (hx : l[i]? = some x) : ∃ g off, a = some ⟨g, off, none⟩ ∧ g < w.heap.size ∧ w.cell? ⟨g, off + i * 3, none⟩ = some (.int .i64 x.seq) ∧ w.cell? ⟨g, off + i * 3 + 1, none⟩ = some (.int .i64 x.off) ∧ w.cell? ⟨g, off + i * 3 + 2, none⟩ = some (.string x.key) := by
  obtain ⟨b, off, ha, hb, hc⟩ := h.row itC3_len (by omega) i x hx
  exact ⟨b, off, ha, hb, hc 0 (by omega), hc 1 (by omega), hc 2 (by omega)⟩
set_option maxRecDepth 100000 in
set_option maxHeartbeats 4000000 in
theorem same14 (a b : Option Addr) (n c1 c2 : Nat) (l : List It) (w : World) (hl : l.length = n) (hn : n ≤ 100000) (ha : Vals w a (l.flatMap itC2)) (hb : Vals w b (l.flatMap itC3)) :
    Calls Try.prog 14 #[.slice a n c1, .slice b n c2] w fun e w' => e = .returned (.bool true) ∧ Below w.heap.size w w' := by
  have HA := Lib.hid ha
  have HB := Lib.hid hb
  have HL := Lib.hid hl
  clear ha hb hl
  go_enter Try.func14, Try.ntmps14
  go_wp2_with fail
  go_loopw [5, 13] (fun _ j wr => ∃ k : Nat, k ≤ n ∧ j = .int .i64 k ∧ Below w.heap.size w wr) (fun _ j _ => n - (intOf j).toNat)
  case atStart => exact ⟨0, Nat.zero_le _, rfl, Below.refl _ _⟩
  case round =>
    obtain ⟨k, hk, rfl, hbr⟩ := hrel
    have B := Lib.hid hbr
    clear hbr
    by_cases hlt : k < n
    · obtain ⟨x, hx⟩ : ∃ x, l[k]? = some x := ⟨_, List.getElem?_eq_getElem (by have := HL.out; omega)⟩
      obtain ⟨g, off, rfl, hg, q0, q1⟩ := (HA.out.below B.out (Nat.le_refl _)).it2 k x hx
      obtain ⟨g', off', rfl, hg', p0, p1, p2⟩ := (HB.out.below B.out (Nat.le_refl _)).it3 k x hx
      have i1 : (k : Int) < n := by omega
      have t1 : (x.off != x.off) = false := by simp
      have t2 : (x.key.toList != x.key.toList) = false := by simp
      have t3 : (!x.key.toList == x.key.toList) = false := by simp
      clear hx p0
      go_wp2_with fail
      go_quiet (fail)
      go_wp2_with fail
      go_roundw
      case rel => exact ⟨k + 1, by omega, by go_num, below_drewN B.out _⟩
      case measure => simp [intOf]; omega
    · obtain rfl : k = n := by omega
      go_wp2_with fail
      go_ret
      exact ⟨rfl, B.out⟩
set_option maxHeartbeats 2000000 in
theorem ints16 (a b : Option Addr) (n c1 c2 : Nat) (zs : List Int) (w : World) (hl : zs.length = n) (hn : n ≤ 100000) (ha : Vals w a (zs.map (Value.int .i64))) (hb : Vals w b (zs.map (Value.int .i64))) :
    Calls Try.prog 16 #[.slice a n c1, .slice b n c2] w fun e w' => e = .returned (.bool true) ∧ Below w.heap.size w w' := by
  have HA := Lib.hid ha
  have HB := Lib.hid hb
  have HL := Lib.hid hl
  clear ha hb hl
  go_enter Try.func16, Try.ntmps16
  go_wp2_with fail
  go_loopw [5, 13] (fun _ j wr => ∃ k : Nat, k ≤ n ∧ j = .int .i64 k ∧ Below w.heap.size w wr) (fun _ j _ => n - (intOf j).toNat)
  case atStart => exact ⟨0, Nat.zero_le _, rfl, Below.refl _ _⟩
  case round =>
    obtain ⟨k, hk, rfl, hbr⟩ := hrel
    have B := Lib.hid hbr
    clear hbr
    by_cases hlt : k < n
    · obtain ⟨z, hz⟩ : ∃ z, zs[k]? = some z := ⟨_, List.getElem?_eq_getElem (by have := HL.out; omega)⟩
      obtain ⟨b1, o1, rfl, l1, g1⟩ := (HA.out.below B.out (Nat.le_refl _)).at k (v := .int .i64 z) (by rw [List.getElem?_map, hz]; rfl)
      obtain ⟨b2, o2, rfl, l2, g2⟩ := (HB.out.below B.out (Nat.le_refl _)).at k (v := .int .i64 z) (by rw [List.getElem?_map, hz]; rfl)
      have i1 : (k : Int) < n := by omega
      clear hz
      go_wp2_with fail
      go_quiet (fail)
      go_wp2_with fail
      go_roundw
      case rel => exact ⟨k + 1, by omega, by go_num, below_drewN B.out _⟩
      case measure => simp [intOf]; omega
    · obtain rfl : k = n := by omega
      go_wp2_with fail
      go_ret
      exact ⟨rfl, B.out⟩
end Go.Proofs.Ytdjjmglocdhnhaa
