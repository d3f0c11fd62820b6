/-
  The contract of the heap's pop.
-/
import Derived.Test.YtmbjkkoennadkaaPush
namespace Go.Proofs.Ytmbjkkoennadkaa
open Go.RowKit
/-- the least of the place m and of the places c .. 2i+2 -/
def leastFrom (l : List Item) (n i c m : Nat) : Nat :=
  if c ≤ 2 * i + 2 ∧ c < n then leastFrom l n i (c + 1) (if ltAt l c m = true then c else m) else m
termination_by 2 * i + 3 - c
decreasing_by omega
def siftDown (l : List Item) (n i : Nat) : List Item :=
  if i < leastFrom l n i (2 * i + 1) i ∧ leastFrom l n i (2 * i + 1) i < n then siftDown (swapL l i (leastFrom l n i (2 * i + 1) i)) n (leastFrom l n i (2 * i + 1) i) else l
termination_by n - i
decreasing_by omega
theorem leastFrom_of (l : List Item) (n i c m : Nat) : leastFrom l n i c m = m ∨ (c ≤ leastFrom l n i c m ∧ leastFrom l n i c m < n) := by
  induction h : 2 * i + 3 - c generalizing c m with
  | zero => rw [leastFrom, if_neg (by omega)]; exact .inl rfl
  | succ q ih =>
    rw [leastFrom]
    split
    · rcases ih (c + 1) (if ltAt l c m = true then c else m) (by omega) with e | e
      · rw [e]
        split
        · exact .inr ⟨Nat.le_refl _, by omega⟩
        · exact .inl rfl
      · exact .inr ⟨by omega, e.2⟩
    · exact .inl rfl
theorem siftDown_length (l : List Item) (n i : Nat) : (siftDown l n i).length = l.length := by
  induction h : n - i using Nat.strongRecOn generalizing l i with
  | _ q ih =>
    rw [siftDown]
    split
    · rw [ih _ (by omega) _ _ rfl, swapL_length]
    · rfl
def popTop (l : List Item) (n : Nat) : List Item := siftDown ((swapL l 0 n).take n) n 0
theorem own_cut {w : World} {base g n cap : Nat} {e : TypeId} {size : Nat} {xs : List Value} (h : w.ownsRow base e size (.slice (some ⟨g, 0, none⟩) (n + 1) cap) (n + 1) xs) :
    w.ownsRow base e size (.slice (some ⟨g, 0, none⟩) n cap) n (xs.take (n * size)) := by
  obtain ⟨h1, h2⟩ := h
  have hle : n * size ≤ (n + 1) * size := Nat.mul_le_mul_right _ (by omega)
  refine ⟨by rw [List.length_take, h1]; omega, .inr ?_⟩
  rcases h2 with ⟨h2, _⟩ | ⟨g', cap', cur, hv, hb, hh, hn, hc, hs, ht⟩
  · cases h2
  · cases hv
    refine ⟨g, cap, cur, rfl, hb, hh, by omega, hc, hs, ?_⟩
    rw [← ht, List.take_take, Nat.min_eq_left hle]
theorem swapL_last (l : List Item) (n : Nat) (hn : n < l.length) : (swapL l 0 n)[n]? = l[0]? := by
  unfold swapL
  rw [List.getElem?_eq_getElem hn, List.getElem?_eq_getElem (show 0 < l.length by omega)]
  simp [hn]
theorem own_cap {w : World} {base g n cap : Nat} {e : TypeId} {size : Nat} {xs : List Value} (h : w.ownsRow base e size (.slice (some ⟨g, 0, none⟩) n cap) n xs) : n ≤ cap ∧ cap ≤ maxLen := by
  rcases h.2 with ⟨h2, _⟩ | ⟨g', cap', cur, hv, hb, hh, hn, hc, _⟩
  · cases h2
  · cases hv; exact ⟨hn, hc⟩
theorem itemCells_take (l : List Item) (n : Nat) : (itemCells l).take (n * 2) = itemCells (l.take n) := by
  induction l generalizing n with
  | nil => simp [itemCells]
  | cons x l ih =>
    cases n with
    | zero => simp [itemCells]
    | succ n =>
      have e : (n + 1) * 2 = (n * 2 + 1) + 1 := by omega
      rw [e]
      simp [itemCells, ih]
theorem Hp.alloc {w : World} {b base : Nat} {v mp : Value} {l : List Item} (h : Hp w b base v l mp) (o : Obj) : Hp (w.alloc o) b base v l mp :=
  h.below ((Below.refl _ _).alloc (Nat.le_refl _) o)
/-- in the midst of pop: the list is cut, the result's block and the copy's block lie there -/
structure Mid (w wr : World) (b base g n cap N1 : Nat) (mp : Value) (cl : List Item) (y : Item) : Prop where
  hp : Hp wr b base (.slice (some ⟨g, 0, none⟩) n cap) cl mp
  fr : Fr (fun k => k = b ∨ k = g) w wr
  res : wr.heap[w.heap.size]? = some (.cells #[.string ⟨#[]⟩, .int .i64 0] 57 (0, 0))
  top : wr.heap[N1]? = some (.cells #[.string y.key, .int .i64 y.at'] 57 (0, 0))
  n1 : w.heap.size < N1
  gl : g < w.heap.size
theorem Mid.below {w wr w' : World} {b base g n cap N1 : Nat} {mp : Value} {cl : List Item} {y : Item} (h : Mid w wr b base g n cap N1 mp cl y) (hb : Below wr.heap.size wr w') : Mid w w' b base g n cap N1 mp cl y :=
  ⟨h.hp.below hb, h.fr.trans (.of_below (S := fun _ => False) hb) (fun _ f => f.elim), by rw [hb.block _ (blk_lt h.res)]; exact h.res, by rw [hb.block _ (blk_lt h.top)]; exact h.top, h.n1, h.gl⟩
theorem Mid.swap {w wr w' : World} {b base g n cap N1 : Nat} {mp : Value} {cl cl' : List Item} {y : Item} (h : Mid w wr b base g n cap N1 mp cl y) (hp : Hp w' b base (.slice (some ⟨g, 0, none⟩) n cap) cl' mp) (hg : wr.grownBy w' (some g)) : Mid w w' b base g n cap N1 mp cl' y := by
  have h1 := h.n1
  have h2 := h.gl
  exact ⟨hp, h.fr.trans (.of_grown (S := fun k => k = g) hg (by rintro k e; cases e; rfl)) (fun _ e => .inl (.inr e)),
    by rw [hg.block _ (blk_lt h.res) (by simp; omega)]; exact h.res, by rw [hg.block _ (blk_lt h.top) (by simp; omega)]; exact h.top, h.n1, h.gl⟩
theorem Mid.fin {w wr : World} {b base g n cap N1 : Nat} {mp : Value} {cl l : List Item} {y : Item} (h : Mid w wr b base g n cap N1 mp cl y) (he : popTop l n = cl) :
    Ending.returned (.agg #[.string y.key, .int .i64 y.at']) = .returned (.agg #[.string y.key, .int .i64 y.at']) ∧
      Hp ((wr.setCell ⟨w.heap.size, 0, none⟩ (.string y.key)).setCell ⟨w.heap.size, 1, none⟩ (.int .i64 y.at')) b base (.slice (some ⟨g, 0, none⟩) n cap) (popTop l n) mp ∧
      Fr (fun k => k = b ∨ k = g) w ((wr.setCell ⟨w.heap.size, 0, none⟩ (.string y.key)).setCell ⟨w.heap.size, 1, none⟩ (.int .i64 y.at')) := by
  have hne := h.hp.ne g rfl
  have h1 := h.gl
  have hb : b ≠ w.heap.size := fun e => by
    have := h.hp.blk
    rw [e, h.res] at this
    simp at this
  have hother : ∀ k, k ≠ w.heap.size → ((wr.setCell ⟨w.heap.size, 0, none⟩ (.string y.key)).setCell ⟨w.heap.size, 1, none⟩ (.int .i64 y.at')).heap[k]? = wr.heap[k]? := fun k hk =>
    (Below.heap_setCell _ _ _ _ hk).trans (Below.heap_setCell _ _ _ _ hk)
  refine ⟨rfl, ⟨by rw [hother _ hb]; exact h.hp.blk, ?_⟩, ⟨h.fr.os, h.fr.tape, h.fr.output, ?_, fun k hk hn => (hother k (by omega)).trans (h.fr.block k hk hn)⟩⟩
  · rw [he]
    exact own_same h.hp.own (fun j hj => by simp [Value.ownBlock] at hj; subst hj; exact hother _ (by omega))
  · have := h.fr.size
    simp [World.setCell]
    omega
theorem pop_mid {w w1 : World} {b base g n cap : Nat} {mp : Value} {l : List Item} {y : Item} (h : Hp w b base (.slice (some ⟨g, 0, none⟩) (n + 1) cap) l mp)
    (h1 : Hp w1 b base (.slice (some ⟨g, 0, none⟩) (n + 1) cap) (swapL l 0 n) mp) (hg : (w.alloc (.cells #[.string ⟨#[]⟩, .int .i64 0] 57)).grownBy w1 (some g)) (hn : l.length = n + 1) :
    Mid w ((w1.alloc (.cells #[.string y.key, .int .i64 y.at'] 57)).setCell ⟨b, 0, none⟩ (.slice (some ⟨g, 0, none⟩) n cap)) b base g n cap w1.heap.size mp ((swapL l 0 n).take n) y := by
  have glt := (h.own.lt g rfl).2
  have blt := blk_lt h.blk
  have hgb := h.ne g rfl
  have hs1 := hg.size
  simp at hs1
  have sz : ∀ o, (w1.alloc o).heap.size = w1.heap.size + 1 := fun o => by simp
  have h2 := h1.alloc (.cells #[.string y.key, .int .i64 y.at'] 57)
  have hother : ∀ v k, k ≠ b → ((w1.alloc (.cells #[.string y.key, .int .i64 y.at'] 57)).setCell ⟨b, 0, none⟩ v).heap[k]? = (w1.alloc (.cells #[.string y.key, .int .i64 y.at'] 57)).heap[k]? := fun v k hk => Below.heap_setCell _ _ _ _ hk
  refine ⟨⟨by rw [blk_set h2.blk]; rfl, ?_⟩, ⟨hg.os, hg.tape, hg.output, ?_, ?_⟩, ?_, ?_, by omega, glt⟩
  · have hl : ((swapL l 0 n).take n).length = n := by rw [List.length_take, swapL_length]; omega
    have o2 := h2.own
    rw [swapL_length, hn] at o2
    rw [hl, ← itemCells_take]
    refine own_same (own_cut o2) (fun j hj => ?_)
    simp [Value.ownBlock] at hj
    subst hj
    exact hother _ _ hgb
  · have := sz (.cells #[.string y.key, .int .i64 y.at'] 57)
    simp [World.setCell] at this ⊢
    omega
  · intro k hk hne
    simp only [not_or] at hne
    rw [hother _ _ hne.1, Below.heap_alloc _ _ _ (by omega), hg.block k (by simp; omega) (by simp; exact hne.2), Below.heap_alloc _ _ _ hk]
  · rw [hother _ _ (by omega), Below.heap_alloc _ _ _ (by omega), hg.block _ (by simp) (by simp; omega)]
    show (w.heap.push _)[w.heap.size]? = _
    simp
  · rw [hother _ _ (by omega)]
    show (w1.heap.push _)[w1.heap.size]? = _
    simp
set_option maxRecDepth 100000 in
set_option maxHeartbeats 4000000 in
theorem pop21 (b base g n cap : Nat) (mp : Value) (l : List Item) (y : Item) (w : World) (hn : l.length = n + 1) (hl : n ≤ 1000000) (hy : l[0]? = some y) (h : Hp w b base (.slice (some ⟨g, 0, none⟩) (n + 1) cap) l mp) :
    Calls Try.prog 21 #[.pointer (some ⟨b, 0, none⟩)] w fun e w' =>
      e = .returned (.agg #[.string y.key, .int .i64 y.at']) ∧ Hp w' b base (.slice (some ⟨g, 0, none⟩) n cap) (popTop l n) mp ∧ Fr (fun k => k = b ∨ k = g) w w' := by
  have HA := Lib.hid (h.alloc (.cells #[.string ⟨#[]⟩, .int .i64 0] 57))
  have c0 := blk_cell (i := 0) h.blk
  have blt := blk_lt h.blk
  have glt := (h.own.lt g rfl).2
  simp only [List.getElem?_toArray, List.getElem?_cons_zero] at c0
  have SW0 := swapHp HA.out hn 0 n (by omega) (by omega) (by omega)
  rw [show ((0 : Nat) : Int) = 0 from rfl] at SW0
  have SW := Lib.hid SW0
  clear SW0
  have HH := Lib.hid h
  have HY := Lib.hid hy
  have HZ := Lib.hid (show zeroValue 57 = zeroValue 57 from rfl)
  clear h hy HZ
  go_enter Try.func21, Try.ntmps21
  go_wp2_with fail
  with_reducible refine SW.out.mono ?_
  rintro e w1 ⟨rfl, hp1, hg1⟩
  have m0 := blk_cell (i := 0) hp1.blk
  have mf := blk_free (i := 0) hp1.blk
  simp only [List.getElem?_toArray, List.getElem?_cons_zero] at m0
  have hl1 : (swapL l 0 n).length = n + 1 := by rw [swapL_length, hn]
  have own := hp1.own
  rw [hl1] at own
  have hgl := (own.lt g rfl).2
  have hgb := HH.out.ne g rfl
  have hcap := own_cap own
  have hcap' : (n : Int) ≤ cap := by omega
  have hy1 : (swapL l 0 n)[n]? = some y := by
    have e : (swapL l 0 n)[n]? = l[0]? := swapL_last l n (by omega)
    rw [e]; exact HY.out
  obtain ⟨y0, y1⟩ := itemCells_at _ n y hy1
  have d0 := own.cellAt (n * 2) (by omega)
  have d1 := own.cellAt (n * 2 + 1) (by omega)
  rw [y0] at d0; rw [y1] at d1
  have HP1 := Lib.hid hp1
  have HG1 := Lib.hid hg1
  have OWN := Lib.hid own
  clear hp1 hg1 own y0 y1 hy1
  go_upto_region 4 with fail
  have q0 : (w1.alloc (.cells #[.string y.key, .int .i64 y.at'] 57)).cell? ⟨b, 0, none⟩ = some (.slice (some ⟨g, 0, none⟩) (n + 1) cap) := by
    rw [((Below.refl _ _).alloc (Nat.le_refl _) _).cell (p := ⟨b, 0, none⟩) (blk_lt HP1.out.blk)]; exact m0
  have qf : (w1.alloc (.cells #[.string y.key, .int .i64 y.at'] 57)).frozen? ⟨b, 0, none⟩ = false := blk_free (i := 0) (HP1.out.alloc _).blk
  have K0 := Lib.hid (pop_mid (y := y) HH.out HP1.out HG1.out hn)
  obtain ⟨T, hT⟩ : ∃ T, popTop l n = T := ⟨_, rfl⟩
  have HT := Lib.hid (show siftDown ((swapL l 0 n).take n) n 0 = T from hT)
  have HT' := Lib.hid hT
  have HL1 := Lib.hid hl1
  clear hT hl1
  generalize w1.heap.size = N1 at *
  go_wp2_with fail
  go_loopw [5, 6, 7] (fun i _ _ wr => ∃ (k : Nat) (cl : List Item), cl.length = n ∧ (k < n ∨ n = 0 ∧ k = 0) ∧ i = .int .i64 k ∧ siftDown cl n k = T ∧ Mid w wr b base g n cap N1 mp cl y) (fun i _ _ _ => n - (intOf i).toNat)
  case atStart => exact ⟨0, (swapL l 0 n).take n, by rw [List.length_take, HL1.out]; omega, by omega, rfl, HT.out, K0.out⟩
  case round =>
    obtain ⟨k, cl, hcl, hk, rfl, hs, hm⟩ := hrel
    have HS := Lib.hid hs
    have HM := Lib.hid hm
    clear hs hm m0 mf q0 qf K0
    obtain ⟨L, hL⟩ : ∃ L, leastFrom cl n k (2 * k + 1) k = L := ⟨_, rfl⟩
    have HL := Lib.hid hL
    clear hL
    go_wp2_with fail
    go_loopw [6, 7] (fun m c wq => ∃ mm cc : Nat, m = .int .i64 mm ∧ c = .int .i64 cc ∧ (mm < n ∨ n = 0) ∧ 2 * k + 1 ≤ cc ∧ cc ≤ 2 * k + 3 ∧ leastFrom cl n k cc mm = L ∧ Mid w wq b base g n cap N1 mp cl y) (fun _ c _ => 2 * k + 3 - (intOf c).toNat)
    case atStart => exact ⟨k, 2 * k + 1, rfl, by go_num, by omega, Nat.le_refl _, by omega, HL.out, HM.out⟩
    case round =>
      obtain ⟨mm, cc, rfl, rfl, hmm, hc1, hc2, hL, hm⟩ := hrel
      have HL2 := Lib.hid hL
      have HM2 := Lib.hid hm
      clear hL hm
      by_cases hin : cc ≤ 2 * k + 2 ∧ cc < n
      · obtain ⟨hle, hlt⟩ := hin
        have hmn : mm < n := by omega
        have hcn : cc < cl.length := by omega
        have hmn' : mm < cl.length := by omega
        obtain ⟨x, hx⟩ : ∃ x, cl[cc]? = some x := ⟨_, List.getElem?_eq_getElem hcn⟩
        obtain ⟨z, hz⟩ : ∃ z, cl[mm]? = some z := ⟨_, List.getElem?_eq_getElem hmn'⟩
        obtain ⟨x0, x1⟩ := itemCells_at cl cc x hx
        obtain ⟨z0, z1⟩ := itemCells_at cl mm z hz
        have own := HM2.out.hp.own
        rw [hcl] at own
        have e0 := own.cellAt (cc * 2) (by omega)
        have e1 := own.cellAt (cc * 2 + 1) (by omega)
        have e2 := own.cellAt (mm * 2) (by omega)
        have e3 := own.cellAt (mm * 2 + 1) (by omega)
        rw [x0] at e0; rw [x1] at e1; rw [z0] at e2; rw [z1] at e3
        have hgw := (own.lt g rfl).2
        have hbw := blk_lt HM2.out.hp.blk
        have b0 := blk_cell (i := 0) HM2.out.hp.blk
        have b1 := blk_cell (i := 1) HM2.out.hp.blk
        simp only [List.getElem?_toArray, List.getElem?_cons_zero, List.getElem?_cons_succ] at b0 b1
        have hlt' : ltAt cl cc mm = ltI x z := by unfold ltAt; rw [hx, hz]
        have HLT := Lib.hid hlt'
        have SO := Lib.hid (fun W => sooner18 x.key z.key x.at' z.at' W)
        clear own hx hz x0 x1 z0 z1 hlt'
        go_wp2_with fail
        refine wp_region_ext wr.heap.size (by kernel_rfl) (by kernel_rfl) ?_
        have hx := fun (x : Ext wr.heap.size wr) b o h => Ext.cell x b o h
        repeat (go_big_quiet_step (first | (go_at_call 18; with_reducible exact Calls.ext (Nat.le_refl _) (SO.out _)) | (with_reducible exact rfl)))
        refine wpQuiet_nil ?_
        rintro w3 ⟨⟨_, hb⟩, rfl⟩
        have HM3 := Lib.hid (HM2.out.below hb)
        clear hx b0 b1 e0 e1 e2 e3 hb hgw hbw
        by_cases hlt3 : ltI x z = true
        · rw [hlt3]
          have hlt' := Lib.hid (HLT.out.trans hlt3)
          clear hlt3
          go_wp2_with fail
          go_roundw
          case rel => exact ⟨cc, cc + 1, by go_num, by go_num, by omega, by omega, by omega, by rw [← HL2.out, leastFrom.eq_1 cl n k cc mm, if_pos ⟨hle, hlt⟩, if_pos hlt'.out], HM3.out⟩
          case measure => simp [intOf]; omega
        · simp only [Bool.not_eq_true] at hlt3
          rw [hlt3]
          have hlt' := Lib.hid (HLT.out.trans hlt3)
          clear hlt3
          go_wp2_with fail
          go_roundw
          case rel => exact ⟨mm, cc + 1, by go_num, by go_num, by omega, by omega, by omega, by rw [← HL2.out, leastFrom.eq_1 cl n k cc mm, if_pos ⟨hle, hlt⟩, if_neg (by rw [hlt'.out]; simp)], HM3.out⟩
          case measure => simp [intOf]; omega
      · have hLm := Lib.hid (show L = mm by rw [← HL2.out, leastFrom.eq_1 cl n k cc mm, if_neg hin])
        by_cases hle : cc ≤ 2 * k + 2
        · have hlt : ¬ cc < n := fun h => hin ⟨hle, h⟩
          clear hin
          have b0 := blk_cell (i := 0) HM2.out.hp.blk
          have t0 := blk_cell (i := 0) HM2.out.top
          have t1 := blk_cell (i := 1) HM2.out.top
          have r0 := blk_cell (i := 0) HM2.out.res
          have r1 := blk_cell (i := 1) HM2.out.res
          have rf0 := blk_free (i := 0) HM2.out.res
          have rf1 := blk_free (i := 1) HM2.out.res
          have hN1 := HM2.out.n1
          simp only [List.getElem?_toArray, List.getElem?_cons_zero, List.getElem?_cons_succ] at b0 t0 t1 r0 r1
          by_cases hmk : mm = k
          · subst hmk
            have hbe : ((mm : Int) == (mm : Int)) = true := by simp
            go_wp2_with fail
            (try simp only [Exit.inBlock, Exit.then])
            refine bodyPost_ret (by simp [results, Try.results21, go_sem, r0, r1]; try rfl) rfl ?_
            exact HM2.out.fin (by rw [HT'.out, ← HS.out, siftDown.eq_1 cl n mm, HL.out, hLm.out, if_neg (by omega)])
          · have hbe : ((mm : Int) == (k : Int)) = false := by simp; omega
            have hlm : k < mm ∧ mm < n := by
              have := leastFrom_of cl n k (2 * k + 1) k
              rw [HL.out, hLm.out] at this
              omega
            have SW' := Lib.hid (swapHp HM2.out.hp hcl k mm (by omega) (by omega) (by omega))
            go_wp2_with fail
            with_reducible refine SW'.out.mono ?_
            rintro e w2 ⟨rfl, hp2, hgr⟩
            have HM3 := Lib.hid (HM2.out.swap hp2 hgr)
            clear hp2 hgr b0 t0 t1 r0 r1 rf0 rf1
            go_wp2_with fail
            go_roundw
            case rel => exact ⟨mm, swapL cl k mm, by rw [swapL_length]; exact hcl, by omega, by go_num, by rw [← HS.out, siftDown.eq_1 cl n k, HL.out, hLm.out, if_pos hlm], HM3.out⟩
            case measure => simp [intOf]; omega
        · clear hin
          have b0 := blk_cell (i := 0) HM2.out.hp.blk
          have t0 := blk_cell (i := 0) HM2.out.top
          have t1 := blk_cell (i := 1) HM2.out.top
          have r0 := blk_cell (i := 0) HM2.out.res
          have r1 := blk_cell (i := 1) HM2.out.res
          have rf0 := blk_free (i := 0) HM2.out.res
          have rf1 := blk_free (i := 1) HM2.out.res
          have hN1 := HM2.out.n1
          simp only [List.getElem?_toArray, List.getElem?_cons_zero, List.getElem?_cons_succ] at b0 t0 t1 r0 r1
          by_cases hmk : mm = k
          · subst hmk
            have hbe : ((mm : Int) == (mm : Int)) = true := by simp
            go_wp2_with fail
            (try simp only [Exit.inBlock, Exit.then])
            refine bodyPost_ret (by simp [results, Try.results21, go_sem, r0, r1]; try rfl) rfl ?_
            exact HM2.out.fin (by rw [HT'.out, ← HS.out, siftDown.eq_1 cl n mm, HL.out, hLm.out, if_neg (by omega)])
          · have hbe : ((mm : Int) == (k : Int)) = false := by simp; omega
            have hlm : k < mm ∧ mm < n := by
              have := leastFrom_of cl n k (2 * k + 1) k
              rw [HL.out, hLm.out] at this
              omega
            have SW' := Lib.hid (swapHp HM2.out.hp hcl k mm (by omega) (by omega) (by omega))
            go_wp2_with fail
            with_reducible refine SW'.out.mono ?_
            rintro e w2 ⟨rfl, hp2, hgr⟩
            have HM3 := Lib.hid (HM2.out.swap hp2 hgr)
            clear hp2 hgr b0 t0 t1 r0 r1 rf0 rf1
            go_wp2_with fail
            go_roundw
            case rel => exact ⟨mm, swapL cl k mm, by rw [swapL_length]; exact hcl, by omega, by go_num, by rw [← HS.out, siftDown.eq_1 cl n k, HL.out, hLm.out, if_pos hlm], HM3.out⟩
            case measure => simp [intOf]; omega
end Go.Proofs.Ytmbjkkoennadkaa
