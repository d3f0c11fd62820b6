/-
  Items: the items of a region, in ascending order of the offsets.
-/
import Derived.Test.YtdjjmglocdhnhaaChMem
import Derived.Test.YtdjjmglocdhnhaaChSort
import Derived.Test.YtdjjmglocdhnhaaRefList
import Derived.Laws.IdiomRangeMap
import Derived.Deep.LoopGhost
namespace Go.Proofs.Ytdjjmglocdhnhaa
open Go.RowKit Go.Maps
set_option linter.unusedVariables false
def itC2 (x : It) : List Value := [.int .i64 x.off, .string x.key]
theorem itC2_len (x : It) : (itC2 x).length = 2 := rfl
theorem Vals.it2 {w : World} {a : Option Addr} {l : List It} (h : Vals w a (l.flatMap itC2)) (i : Nat) (x : It) (hx : l[i]? = some x) : ∃ g off, a = some ⟨g, off, none⟩ ∧ g < w.heap.size ∧ w.cell? ⟨g, off + i * 2, none⟩ = some (.int .i64 x.off) ∧ w.cell? ⟨g, off + i * 2 + 1, none⟩ = some (.string x.key) := by
  obtain ⟨b, off, ha, hb, hc⟩ := h.row itC2_len (by omega) i x hx
  exact ⟨b, off, ha, hb, hc 0 (by omega), hc 1 (by omega)⟩
theorem iteminfo : (Try.prog.info? 32).map (fun i => (i.zero, i.size, i.bytes)) = some (some (.agg #[.int .i64 0, .string ByteArray.empty]), 2, 24) := by kernel_rfl
def keyF (l : List It) (o : Int) : ByteArray := match l.find? (fun x => decide (x.off = o)) with | some x => x.key | none => ByteArray.empty
theorem keyF_of {L : List It} {s : Int} (hA : AscI L) {x : It} (hx : x ∈ itsI L s) : keyF (itsI L s) x.off = x.key := by
  unfold keyF
  cases h : (itsI L s).find? (fun y => decide (y.off = x.off)) with
  | none =>
    have := List.find?_eq_none.1 h x hx
    simp at this
  | some y =>
    have hy := List.mem_of_find?_eq_some h
    have ho := List.find?_some h
    simp only [decide_eq_true_eq] at ho
    have hs := (mem_itsI.1 hx).2
    have hs' := (mem_itsI.1 hy).2
    rw [(hA.its s).one hy hx (hs'.trans hs.symm) ho]
theorem offs_asc {L : List It} (hA : AscI L) (s : Int) : ((itsI L s).map It.off).Pairwise (· < ·) := by
  refine List.pairwise_map.2 ((hA.its s).imp_of_mem fun {a b} ha hb h => ?_)
  have h1 := (mem_itsI.1 ha).2
  have h2 := (mem_itsI.1 hb).2
  rw [ltI_iff] at h
  omega
theorem offs_cells {L : List It} {s : Int} (hA : AscI L) : ((itsI L s).map It.off).flatMap (encF (keyF (itsI L s))) = (itsI L s).flatMap itC2 := by
  rw [List.flatMap_map]
  have key : ∀ l : List It, (∀ x ∈ l, x ∈ itsI L s) → l.flatMap (fun x => encF (keyF (itsI L s)) x.off) = l.flatMap itC2 := by
    intro l
    induction l with
    | nil => intro _; rfl
    | cons x l ih =>
      intro hl
      rw [List.flatMap_cons, List.flatMap_cons, ih (fun y hy => hl y (List.mem_cons_of_mem _ hy))]
      unfold encF itC2
      rw [keyF_of hA (hl x (by simp))]
  exact key _ (fun x hx => hx)
theorem coll_perm {D : DataW Nat} {L : List It} {s : Int} {left : Lit → Bool} {g : List Int} (hA : AscI L) (ha : InA D (itsI L s)) (hc : CollectedI D left g) (hl : ∀ kl, left kl = false) : g.Perm ((itsI L s).map It.off) := by
  refine (List.perm_ext_iff_of_nodup hc.1 ((offs_asc hA s).imp (fun h e => by omega))).2 (fun x => ?_)
  rw [hc.2, hl, List.mem_map]
  have := ha.has x
  unfold olit at this
  rw [this]
  simp
theorem coll_key {D : DataW Nat} {L : List It} {s : Int} (hA : AscI L) (ha : InA D (itsI L s)) {x : Int} {c : ByteArray} (hat : ∀ zd, D.atKey (.int .i64 x) zd = .lit (.string c.data.toList)) : keyF (itsI L s) x = c := by
  have hh := has_true_of_atKey hat
  have h2 := ha.has x
  unfold olit at h2
  rw [h2] at hh
  obtain ⟨y, hy, rfl⟩ := of_decide_eq_true hh
  rw [keyF_of hA hy]
  have h3 := ha.at' y hy (.nil)
  unfold olit at h3
  rw [hat] at h3
  unfold sdat at h3
  injection h3 with h3
  injection h3 with h3
  exact (WideShapes.bytes_inj h3).symm
/-- the items gathered so far -/
structure GaI (w wr : World) (b n : Nat) (D : DataW Nat) (left : Lit → Bool) (cnt : Nat) (v : Value) (g : List Int) (f : Int → ByteArray) : Prop where
  rg : wr.ranges Try.prog 3 (plainElem Try.prog 9) b w.heap.size n D left cnt
  co : CollectedI D left g
  bel : Below w.heap.size w wr
  own : wr.ownsRow (w.heap.size + 1) 32 2 v g.length (g.flatMap (encF f))
  len : g.length + cnt ≤ Maps.size D
theorem GaI.step {w wr w1 w2 : World} {b n : Nat} {D : DataW Nat} {left : Lit → Bool} {cnt cnt1 : Nat} {v v2 : Value} {g : List Int} {f : Int → ByteArray} {x : Int} {c : ByteArray} {o : Obj} (h : GaI w wr b n D left cnt v g f) (hlx : left (.int .i64 x) = true) (hat : ∀ zd, D.atKey (.int .i64 x) zd = .lit (.string c.data.toList)) (hk : f x = c)
    (hrg1 : w1.ranges Try.prog 3 (plainElem Try.prog 9) b w.heap.size n D (fun z => left z && !z.sameKey (.int .i64 x)) cnt1) (hg1 : wr.grownBy w1 (some w.heap.size)) (hbl : b < w.heap.size) (hlt : cnt1 < cnt)
    (own2 : w2.ownsRow (w.heap.size + 1) 32 2 v2 (g.length + 1) (g.flatMap (encF f) ++ [.int .i64 x, .string c])) (g2 : (w1.alloc o).grownBy w2 v.ownBlock) : GaI w w2 b n D (fun z => left z && !z.sameKey (.int .i64 x)) cnt1 v2 (g ++ [x]) f := by
  have hb1 : Below w.heap.size w w1 := h.bel.grown hg1 h.bel.size (fun j hj => by cases hj; exact Nat.le_refl _)
  have hva : ∀ j, v.ownBlock = some j → w.heap.size + 1 ≤ j := fun j hj => (h.own.lt j hj).1
  refine ⟨(hrg1.alloc o).kept g2 (fun e => ?_) (fun e => ?_), h.co.step hlx hat, (hb1.alloc hb1.size o).grown g2 (hb1.alloc hb1.size o).size (fun j hj => by have := hva j hj; omega), ?_, by have := h.len; rw [List.length_append, List.length_singleton]; omega⟩
  · have := hva b e.symm; omega
  · have := hva _ e.symm; omega
  · rw [List.length_append, List.flatMap_append]
    have e : [x].flatMap (encF f) = [.int .i64 x, .string c] := by simp [encF, hk]
    rw [e]
    exact own2
theorem GaI.own1 {w wr w1 : World} {b n : Nat} {D : DataW Nat} {left : Lit → Bool} {cnt : Nat} {v : Value} {g : List Int} {f : Int → ByteArray} (h : GaI w wr b n D left cnt v g f) (hg1 : wr.grownBy w1 (some w.heap.size)) : w1.ownsRow (w.heap.size + 1) 32 2 v g.length (g.flatMap (encF f)) :=
  own_same h.own (fun k hk => hg1.block k (h.own.lt k hk).2 (fun e => by cases e; have := (h.own.lt _ hk).1; omega))
theorem item_one (x : Int) (c : ByteArray) : ∀ u ∈ [Value.int .i64 x, .string c], u.oneCell' = true := by
  intro u hu
  simp only [List.mem_cons, List.not_mem_nil, or_false] at hu
  rcases hu with rfl | rfl <;> rfl
/-- what Items gives -/
def ItemsE (w : World) (L : List It) (s : Int) (e : Ending) (w' : World) : Prop :=
  ∃ v, e = .returned v ∧ w'.ownsRow w.heap.size 32 2 v (itsI L s).length ((itsI L s).flatMap itC2) ∧ Below w.heap.size w w'
set_option maxRecDepth 100000 in
set_option maxHeartbeats 4000000 in
theorem items8 (cb N : Nat) (R : Nat → Prop) (L : List It) (s : Int) (w : World) (hs : (Lit.int .i64 s).wf = true) (hL : L.length ≤ 100000) (hA : AscI L) (h : Ch w cb N L R) :
    Calls Try.prog 8 #[.pointer (some ⟨cb, 0, none⟩), .int .i64 s] w (ItemsE w L s) := by
  obtain ⟨ob, no, D, bl, p, rfl⟩ := h
  have c0 := blk_cell (i := 0) p.blk
  simp only [List.getElem?_toArray, List.getElem?_cons_zero] at c0
  have hbm := blk_lt p.blk
  have lk := p.look hs
  by_cases hh : HasS L s
  · obtain ⟨n, Di, hi, hn, ha⟩ := p.inn s hh
    have HI := Lib.hid hi
    have HAI := Lib.hid ha
    have HA := Lib.hid hA
    have HH := Lib.hid (hasS_its.1 hh)
    have HLL := Lib.hid (show (itsI L s).length ≤ 100000 from Nat.le_trans (List.length_filter_le _ _) hL)
    obtain ⟨b, hb⟩ : ∃ b, bl s = b := ⟨_, rfl⟩
    rw [if_pos hh, hb] at lk
    rw [hb] at HI
    have hbl := HI.out.lt
    obtain ⟨i0, hz, hz0, hz1, hz2⟩ := info_parts iteminfo
    have I1 := Lib.hid hz; have I2 := Lib.hid hz0; have I3 := Lib.hid hz1; have I4 := Lib.hid hz2
    obtain ⟨f, hf⟩ : ∃ f, keyF (itsI L s) = f := ⟨_, rfl⟩
    have HF := Lib.hid hf
    clear hs hA p hi ha hh hb hn hL hz hz0 hz1 hz2 hf
    go_enter Try.func8, Try.ntmps8
    go_wp2_with (at_range; refine Stop.out ?_)
    refine Stop.of (wpList_range_own _ rfl _ 52 rfl 3 9 intK mapI (plainElem Try.prog 9) b n Di rfl HI.out ?_)
    intro w0 hrg0 hg0 hs0
    have G0 := Lib.hid (show GaI w w0 b n Di (Maps.has Di) (Maps.size Di) (.slice none 0 0) [] f from ⟨hrg0, CollectedI.start Di, (Below.refl _ _).grown hg0 (Nat.le_refl _) (fun j hj => by cases hj), own_nil _ _ _ _, by simp⟩)
    clear hrg0 hg0 hs0
    go_wp2_with fail
    go_frame
    go_loopg [5, 6, 7] (Maps.size Di) (fun gk ov _ _ wr => ∃ (left : Lit → Bool) (g : List Int) (v : Value), v = ov ∧ GaI w wr b n Di left gk v g f)
    case atStart => exact ⟨_, _, _, rfl, G0.out⟩
    case round =>
      obtain ⟨left, g, v, rfl, ga⟩ := hrel
      have GA := Lib.hid ga
      clear ga G0
      go_wp2_with (at_next; refine Stop.out ?_)
      refine Stop.of (wpList_next_ranges_is _ rfl _ rfl 3 9 .i64 intK Try.underlying3 Try.underlying9 b w.heap.size n Di left gk rfl GA.out.rg ?_ ?_)
      · intro hc0 hl0
        have hp := coll_perm HA.out HAI.out GA.out.co hl0
        have hlen : g.length = (itsI L s).length := by rw [hp.length_eq, List.length_map]
        have hpos : 0 < g.length := by
          rw [hlen]
          exact List.length_pos_iff.2 HH.out
        obtain ⟨gb, cap, rfl, hgb, _⟩ := GA.out.own.form hpos
        obtain ⟨m, hm⟩ : ∃ m, g.length = m := ⟨_, rfl⟩
        have OW := GA.out.own
        rw [hm] at OW
        have SO := Lib.hid (sortf19 f (w.heap.size + 1) gb cap m g hm wr OW (by have := HLL.out; omega))
        have MS := Lib.hid (sorted_of hp (offs_asc HA.out s))
        have HM := Lib.hid (hlen.symm.trans hm)
        rw [hm]
        clear hp hlen hpos OW hm hc0 hl0
        go_wp2_with fail
        with_reducible refine SO.out.mono ?_
        rintro e w2 ⟨rfl, ho2, hg2⟩
        have O2 := Lib.hid ho2
        have B2 := Lib.hid (GA.out.bel.grown hg2 GA.out.bel.size (fun j hj => by cases hj; omega))
        clear ho2 hg2
        go_wp2_with fail
        go_ret
        refine ⟨_, rfl, ?_, B2.out⟩
        have ho := O2.out
        rw [MS.out, ← HF.out, offs_cells HA.out] at ho
        rw [HM.out]
        exact own_base ho (Nat.le_succ _)
      · intro x c w1 cnt1 hwx hwc hlx hat hrg1 hlt hg1 hs1 hen
        have HK := Lib.hid (show f x = c from by rw [← HF.out]; exact coll_key HA.out HAI.out hat)
        have OW1 := GA.out.own1 hg1
        obtain ⟨m, hm⟩ : ∃ m, g.length = m := ⟨_, rfl⟩
        have hm2 : m ≤ 100000 := by
          have h1 := GA.out.len
          have h2 := HAI.out.size
          have h3 := HLL.out
          omega
        rw [hm] at OW1
        have OW := Lib.hid OW1
        have HAT := Lib.hid hat
        have RG := Lib.hid hrg1
        have HG := Lib.hid hg1
        have HM := Lib.hid hm
        have hws : w.heap.size + 1 ≤ w1.heap.size := by have := hrg1.lt; omega
        clear hwx hwc hat hrg1 hg1 OW1 hm hs1
        go_wp2_with (at_builtin; refine Stop.out ?_)
        refine Stop.of (wpList_app rfl _ _ 29 rfl (w.heap.size + 1) 32 i0 (.agg #[.int .i64 0, .string ByteArray.empty]) 2 24 Try.underlying29 I1.out I2.out I3.out I4.out rfl (by decide) v m (g.flatMap (encF f)) rfl (OW.out.alloc _) _ 1 [.int .i64 x, .string c] rfl (src_lit #[.int .i64 x, .string c] (0, 0) (heap_alloc_new _ _) rfl) (item_one x c) (by unfold maxLen; omega) (by omega) (by simp; omega) ?_)
        intro v2 w2 hown2 hgrow2
        have G2 := Lib.hid (GA.out.step hlx HAT.out HK.out RG.out HG.out hbl hlt (by rw [HM.out]; exact hown2) hgrow2)
        clear hown2 hgrow2 hen
        go_wp2_with fail
        go_roundg cnt1
        case measure => exact hlt
        case rel => exact ⟨_, _, _, rfl, G2.out⟩
  · rw [if_neg hh] at lk
    have HE := Lib.hid (show itsI L s = [] from itsI_nil_iff.2 hh)
    have hr := run_range_nilMap (P := Try.prog) w 52 3 9 mapI
    have hn := fun ty => run_next_nilMap (P := Try.prog) w ty 0 0 #[]
    clear hs hA p hh hL
    go_enter Try.func8, Try.ntmps8
    go_wp2_with fail
    refine wp_loop_rounds 1 ?_
    rw [rounds_succ]
    go_wp2_with fail
    with_reducible refine (sortf19_none none 0 _ _).mono ?_
    rintro e w2 ⟨rfl, rfl⟩
    go_wp2_with fail
    go_ret
    refine ⟨_, rfl, ?_, (Below.refl _ _).alloc (Nat.le_refl _) _⟩
    rw [HE.out]
    exact own_nil _ _ _ _
end Go.Proofs.Ytdjjmglocdhnhaa
