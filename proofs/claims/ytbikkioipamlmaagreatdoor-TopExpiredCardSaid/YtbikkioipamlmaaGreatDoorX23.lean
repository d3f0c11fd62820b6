/-
  Laws and contracts for the statement TopExpired.
-/
import Derived.Deep.LoopGhost
import Derived.Test.YtbikkioipamlmaaGreatDoorX22
open Go.Lib (hid)
open Go.Proofs.Tryz (prog)
set_option linter.unusedVariables false
set_option linter.unusedSimpArgs false
set_option maxRecDepth 100000
set_option maxHeartbeats 20000000
namespace Go.Proofs.YtbikkioipamlmaaGreatDoor.Q18
open Go.RowKit
def leastFrom (l : List Item) (n i c m : Nat) : Nat :=
  if c <= 2 * i + 2 /\ c < n then leastFrom l n i (c + 1) (if ltAt l c m = true then c else m) else m
termination_by 2 * i + 3 - c
decreasing_by omega
def siftDown (l : List Item) (n i : Nat) : List Item :=
  if i < leastFrom l n i (2 * i + 1) i /\ leastFrom l n i (2 * i + 1) i < n then siftDown (swapL l i (leastFrom l n i (2 * i + 1) i)) n (leastFrom l n i (2 * i + 1) i) else l
termination_by n - i
decreasing_by omega
theorem leastFrom_of (l : List Item) (n i c m : Nat) : leastFrom l n i c m = m \/ (c <= leastFrom l n i c m /\ leastFrom l n i c m < n) := by
  induction h : 2 * i + 3 - c generalizing c m with
  | zero => rw [leastFrom, if_neg (by omega)]; exact .inl rfl
  | succ q ih =>
    rw [leastFrom]
    split
    · rcases ih (c + 1) (if ltAt l c m = true then c else m) (by omega) with e | e
      · rw [e]
        split
        · exact .inr ⟨Nat.le_refl _, by omega⟩
        · exact .inl rfl
      · exact .inr ⟨by omega, e.2⟩
    · exact .inl rfl
def popTop (l : List Item) (n : Nat) : List Item := siftDown ((swapL l 0 n).take n) n 0
theorem own_cut {w : World} {base g n cap : Nat} {e : TypeId} {size : Nat} {xs : List Value} (h : w.ownsRow base e size (.slice (some ⟨g, 0, none⟩) (n + 1) cap) (n + 1) xs) :
    w.ownsRow base e size (.slice (some ⟨g, 0, none⟩) n cap) n (xs.take (n * size)) := by
  obtain ⟨h1, h2⟩ := h
  have hle : n * size <= (n + 1) * size := Nat.mul_le_mul_right _ (by omega)
  refine ⟨by rw [List.length_take, h1]; omega, .inr ?_⟩
  rcases h2 with ⟨h2, _⟩ | ⟨g', cap', cur, hv, hb, hh, hn, hc, hs, ht⟩
  · cases h2
  · cases hv
    refine ⟨g, cap, cur, rfl, hb, hh, by omega, hc, hs, ?_⟩
    rw [<- ht, List.take_take, Nat.min_eq_left hle]
theorem swapL_last (l : List Item) (n : Nat) (hn : n < l.length) : (swapL l 0 n)[n]? = l[0]? := by
  unfold swapL
  rw [List.getElem?_eq_getElem hn, List.getElem?_eq_getElem (show 0 < l.length by omega)]
  simp [hn]
theorem own_cap {w : World} {base g n cap : Nat} {e : TypeId} {size : Nat} {xs : List Value} (h : w.ownsRow base e size (.slice (some ⟨g, 0, none⟩) n cap) n xs) : n <= cap /\ cap <= maxLen := by
  rcases h.2 with ⟨h2, _⟩ | ⟨g', cap', cur, hv, hb, hh, hn, hc, _⟩
  · cases h2
  · cases hv; exact ⟨hn, hc⟩
theorem itemCells_take (l : List Item) (n : Nat) : (itemCells l).take (n * 2) = itemCells (l.take n) := by
  induction l generalizing n with
  | nil => simp [itemCells]
  | cons x l ih =>
    cases n with
    | zero => simp [itemCells]
    | succ n =>
      have e : (n + 1) * 2 = (n * 2 + 1) + 1 := by omega
      rw [e]
      simp [itemCells, ih]
theorem Hp.alloc {w : World} {b base : Nat} {v mp : Value} {l : List Item} (h : Hp w b base v l mp) (o : Obj) : Hp (w.alloc o) b base v l mp :=
  h.below ((Below.refl _ _).alloc (Nat.le_refl _) o)
structure Mid (w wr : World) (b base g n cap N1 : Nat) (mp : Value) (cl : List Item) (y : Item) : Prop where
  hp : Hp wr b base (.slice (some ⟨g, 0, none⟩) n cap) cl mp
  fr : Fr (fun k => k = b \/ k = g) w wr
  res : wr.heap[w.heap.size]? = some (.cells #[.string ⟨#[]⟩, .int .i64 0] 337 (0, 0))
  top : wr.heap[N1]? = some (.cells #[.string y.key, .int .i64 y.at'] 337 (0, 0))
  n1 : w.heap.size < N1
  gl : g < w.heap.size
theorem Mid.below {w wr w' : World} {b base g n cap N1 : Nat} {mp : Value} {cl : List Item} {y : Item} (h : Mid w wr b base g n cap N1 mp cl y) (hb : Below wr.heap.size wr w') : Mid w w' b base g n cap N1 mp cl y :=
  ⟨h.hp.below hb, h.fr.trans (.of_below (S := fun _ => False) hb) (fun _ f => f.elim), by rw [hb.block _ (lB h.res)]; exact h.res, by rw [hb.block _ (lB h.top)]; exact h.top, h.n1, h.gl⟩
theorem Mid.swap {w wr w' : World} {b base g n cap N1 : Nat} {mp : Value} {cl cl' : List Item} {y : Item} (h : Mid w wr b base g n cap N1 mp cl y) (hp : Hp w' b base (.slice (some ⟨g, 0, none⟩) n cap) cl' mp) (hg : wr.grownBy w' (some g)) : Mid w w' b base g n cap N1 mp cl' y := by
  have h1 := h.n1
  have h2 := h.gl
  exact ⟨hp, h.fr.trans (.of_grown (S := fun k => k = g) hg (by rintro k e; cases e; rfl)) (fun _ e => .inl (.inr e)),
    by rw [hg.block _ (lB h.res) (by simp; omega)]; exact h.res, by rw [hg.block _ (lB h.top) (by simp; omega)]; exact h.top, h.n1, h.gl⟩
theorem Mid.fin {w wr : World} {b base g n cap N1 : Nat} {mp : Value} {cl l : List Item} {y : Item} (h : Mid w wr b base g n cap N1 mp cl y) (he : popTop l n = cl) :
    Ending.returned (.agg #[.string y.key, .int .i64 y.at']) = .returned (.agg #[.string y.key, .int .i64 y.at']) /\
      Hp ((wr.setCell ⟨w.heap.size, 0, none⟩ (.string y.key)).setCell ⟨w.heap.size, 1, none⟩ (.int .i64 y.at')) b base (.slice (some ⟨g, 0, none⟩) n cap) (popTop l n) mp /\
      Fr (fun k => k = b \/ k = g) w ((wr.setCell ⟨w.heap.size, 0, none⟩ (.string y.key)).setCell ⟨w.heap.size, 1, none⟩ (.int .i64 y.at')) := by
  have hne := h.hp.ne g rfl
  have h1 := h.gl
  have hb : b ≠ w.heap.size := fun e => by
    have := h.hp.blk
    rw [e, h.res] at this
    simp at this
  have hother : ∀ k, k ≠ w.heap.size -> ((wr.setCell ⟨w.heap.size, 0, none⟩ (.string y.key)).setCell ⟨w.heap.size, 1, none⟩ (.int .i64 y.at')).heap[k]? = wr.heap[k]? := fun k hk =>
    (Below.heap_setCell _ _ _ _ hk).trans (Below.heap_setCell _ _ _ _ hk)
  refine ⟨rfl, ⟨by rw [hother _ hb]; exact h.hp.blk, ?_⟩, ⟨h.fr.os, h.fr.tape, h.fr.output, ?_, fun k hk hn => (hother k (by omega)).trans (h.fr.block k hk hn)⟩⟩
  · rw [he]
    exact own_same h.hp.own (fun j hj => by simp [Value.ownBlock] at hj; subst hj; exact hother _ (by omega))
  · have := h.fr.size
    simp [World.setCell]
    omega
theorem pop_mid {w w1 : World} {b base g n cap : Nat} {mp : Value} {l : List Item} {y : Item} (h : Hp w b base (.slice (some ⟨g, 0, none⟩) (n + 1) cap) l mp)
    (h1 : Hp w1 b base (.slice (some ⟨g, 0, none⟩) (n + 1) cap) (swapL l 0 n) mp) (hg : (w.alloc (.cells #[.string ⟨#[]⟩, .int .i64 0] 337)).grownBy w1 (some g)) (hn : l.length = n + 1) :
    Mid w ((w1.alloc (.cells #[.string y.key, .int .i64 y.at'] 337)).setCell ⟨b, 0, none⟩ (.slice (some ⟨g, 0, none⟩) n cap)) b base g n cap w1.heap.size mp ((swapL l 0 n).take n) y := by
  have glt := (h.own.lt g rfl).2
  have blt := lB h.blk
  have hgb := h.ne g rfl
  have hs1 := hg.size
  simp at hs1
  have sz : ∀ o, (w1.alloc o).heap.size = w1.heap.size + 1 := fun o => by simp
  have h2 := h1.alloc (.cells #[.string y.key, .int .i64 y.at'] 337)
  have hother : ∀ v k, k ≠ b -> ((w1.alloc (.cells #[.string y.key, .int .i64 y.at'] 337)).setCell ⟨b, 0, none⟩ v).heap[k]? = (w1.alloc (.cells #[.string y.key, .int .i64 y.at'] 337)).heap[k]? := fun v k hk => Below.heap_setCell _ _ _ _ hk
  refine ⟨⟨by rw [uB h2.blk]; rfl, ?_⟩, ⟨hg.os, hg.tape, hg.output, ?_, ?_⟩, ?_, ?_, by omega, glt⟩
  · have hl : ((swapL l 0 n).take n).length = n := by rw [List.length_take, swapL_length]; omega
    have o2 := h2.own
    rw [swapL_length, hn] at o2
    rw [hl, <- itemCells_take]
    refine own_same (own_cut o2) (fun j hj => ?_)
    simp [Value.ownBlock] at hj
    subst hj
    exact hother _ _ hgb
  · have := sz (.cells #[.string y.key, .int .i64 y.at'] 337)
    simp [World.setCell] at this ⊢
    omega
  · intro k hk hne
    simp only [not_or] at hne
    rw [hother _ _ hne.1, Below.heap_alloc _ _ _ (by omega), hg.block k (by simp; omega) (by simp; exact hne.2), Below.heap_alloc _ _ _ hk]
  · rw [hother _ _ (by omega), Below.heap_alloc _ _ _ (by omega), hg.block _ (by simp) (by simp; omega)]
    show (w.heap.push _)[w.heap.size]? = _
    simp
  · rw [hother _ _ (by omega)]
    show (w1.heap.push _)[w1.heap.size]? = _
    simp
theorem pop21 (b base g n cap : Nat) (mp : Value) (l : List Item) (y : Item) (w : World) (hn : l.length = n + 1) (hl : n <= 1000000) (hy : l[0]? = some y) (h : Hp w b base (.slice (some ⟨g, 0, none⟩) (n + 1) cap) l mp) :
    Calls prog 220 #[.pointer (some ⟨b, 0, none⟩)] w fun e w' =>
      e = .returned (.agg #[.string y.key, .int .i64 y.at']) /\ Hp w' b base (.slice (some ⟨g, 0, none⟩) n cap) (popTop l n) mp /\ Fr (fun k => k = b \/ k = g) w w' := by
  have HA := hid (h.alloc (.cells #[.string ⟨#[]⟩, .int .i64 0] 337))
  have c0 := qB (i := 0) h.blk
  have blt := lB h.blk
  have glt := (h.own.lt g rfl).2
  simp only [List.getElem?_toArray, List.getElem?_cons_zero] at c0
  have SW0 := swapHp HA.out hn 0 n (by omega) (by omega) (by omega)
  rw [show ((0 : Nat) : Int) = 0 from rfl] at SW0
  have SW := hid SW0
  clear SW0
  have HH := hid h
  have HY := hid hy
  have HZ := hid (show zeroValue 337 = zeroValue 337 from rfl)
  clear h hy HZ
  go_enter Tryz.func220, Tryz.ntmps220
  go_wp2_with fail
  with_reducible refine SW.out.mono ?_
  rintro e w1 ⟨rfl, hp1, hg1⟩
  have m0 := qB (i := 0) hp1.blk
  have mf := zB (i := 0) hp1.blk
  simp only [List.getElem?_toArray, List.getElem?_cons_zero] at m0
  have hl1 : (swapL l 0 n).length = n + 1 := by rw [swapL_length, hn]
  have own := hp1.own
  rw [hl1] at own
  have hgl := (own.lt g rfl).2
  have hgb := HH.out.ne g rfl
  have hcap := own_cap own
  have hcap' : (n : Int) <= cap := by omega
  have hy1 : (swapL l 0 n)[n]? = some y := by
    have e : (swapL l 0 n)[n]? = l[0]? := swapL_last l n (by omega)
    rw [e]; exact HY.out
  obtain ⟨y0, y1⟩ := itemCells_at _ n y hy1
  have d0 := own.cellAt (n * 2) (by omega)
  have d1 := own.cellAt (n * 2 + 1) (by omega)
  rw [y0] at d0; rw [y1] at d1
  have HP1 := hid hp1
  have HG1 := hid hg1
  have OWN := hid own
  clear hp1 hg1 own y0 y1 hy1
  go_upto_region 4 with fail
  have q0 : (w1.alloc (.cells #[.string y.key, .int .i64 y.at'] 337)).cell? ⟨b, 0, none⟩ = some (.slice (some ⟨g, 0, none⟩) (n + 1) cap) := by
    rw [((Below.refl _ _).alloc (Nat.le_refl _) _).cell (p := ⟨b, 0, none⟩) (lB HP1.out.blk)]; exact m0
  have qf : (w1.alloc (.cells #[.string y.key, .int .i64 y.at'] 337)).frozen? ⟨b, 0, none⟩ = false := zB (i := 0) (HP1.out.alloc _).blk
  have K0 := hid (pop_mid (y := y) HH.out HP1.out HG1.out hn)
  obtain ⟨T, hT⟩ : ∃ T, popTop l n = T := ⟨_, rfl⟩
  have HT := hid (show siftDown ((swapL l 0 n).take n) n 0 = T from hT)
  have HT' := hid hT
  have HL1 := hid hl1
  clear hT hl1
  generalize w1.heap.size = N1 at *
  go_wp2_with fail
  go_loopw [5, 6, 7] (fun i _ _ wr => ∃ (k : Nat) (cl : List Item), cl.length = n /\ (k < n \/ n = 0 /\ k = 0) /\ i = .int .i64 k /\ siftDown cl n k = T /\ Mid w wr b base g n cap N1 mp cl y) (fun i _ _ _ => n - (intOf i).toNat)
  case atStart => exact ⟨0, (swapL l 0 n).take n, by rw [List.length_take, HL1.out]; omega, by omega, rfl, HT.out, K0.out⟩
  case round =>
    obtain ⟨k, cl, hcl, hk, rfl, hs, hm⟩ := hrel
    have HS := hid hs
    have HM := hid hm
    clear hs hm m0 mf q0 qf K0
    obtain ⟨L, hL⟩ : ∃ L, leastFrom cl n k (2 * k + 1) k = L := ⟨_, rfl⟩
    have HL := hid hL
    clear hL
    go_wp2_with fail
    go_loopw [6, 7] (fun m c wq => ∃ mm cc : Nat, m = .int .i64 mm /\ c = .int .i64 cc /\ (mm < n \/ n = 0) /\ 2 * k + 1 <= cc /\ cc <= 2 * k + 3 /\ leastFrom cl n k cc mm = L /\ Mid w wq b base g n cap N1 mp cl y) (fun _ c _ => 2 * k + 3 - (intOf c).toNat)
    case atStart => exact ⟨k, 2 * k + 1, rfl, by go_num, by omega, Nat.le_refl _, by omega, HL.out, HM.out⟩
    case round =>
      obtain ⟨mm, cc, rfl, rfl, hmm, hc1, hc2, hL, hm⟩ := hrel
      have HL2 := hid hL
      have HM2 := hid hm
      clear hL hm
      by_cases hin : cc <= 2 * k + 2 /\ cc < n
      · obtain ⟨hle, hlt⟩ := hin
        have hmn : mm < n := by omega
        have hcn : cc < cl.length := by omega
        have hmn' : mm < cl.length := by omega
        obtain ⟨x, hx⟩ : ∃ x, cl[cc]? = some x := ⟨_, List.getElem?_eq_getElem hcn⟩
        obtain ⟨z, hz⟩ : ∃ z, cl[mm]? = some z := ⟨_, List.getElem?_eq_getElem hmn'⟩
        obtain ⟨x0, x1⟩ := itemCells_at cl cc x hx
        obtain ⟨z0, z1⟩ := itemCells_at cl mm z hz
        have own := HM2.out.hp.own
        rw [hcl] at own
        have e0 := own.cellAt (cc * 2) (by omega)
        have e1 := own.cellAt (cc * 2 + 1) (by omega)
        have e2 := own.cellAt (mm * 2) (by omega)
        have e3 := own.cellAt (mm * 2 + 1) (by omega)
        rw [x0] at e0; rw [x1] at e1; rw [z0] at e2; rw [z1] at e3
        have hgw := (own.lt g rfl).2
        have hbw := lB HM2.out.hp.blk
        have b0 := qB (i := 0) HM2.out.hp.blk
        have b1 := qB (i := 1) HM2.out.hp.blk
        simp only [List.getElem?_toArray, List.getElem?_cons_zero, List.getElem?_cons_succ] at b0 b1
        have hlt' : ltAt cl cc mm = ltI x z := by unfold ltAt; rw [hx, hz]
        have HLT := hid hlt'
        have SO := hid (fun W => sooner18 x.key z.key x.at' z.at' W)
        clear own hx hz x0 x1 z0 z1 hlt'
        go_wp2_with fail
        refine wp_region_ext wr.heap.size (by kernel_rfl) (by kernel_rfl) ?_
        have hx := fun (x : Ext wr.heap.size wr) b o h => Ext.cell x b o h
        repeat (go_big_quiet_step (first | (go_at_call 298; with_reducible exact Calls.ext (Nat.le_refl _) (SO.out _)) | (with_reducible exact rfl)))
        refine wpQuiet_nil ?_
        rintro w3 ⟨⟨_, hb⟩, rfl⟩
        have HM3 := hid (HM2.out.below hb)
        clear hx b0 b1 e0 e1 e2 e3 hb hgw hbw
        by_cases hlt3 : ltI x z = true
        · rw [hlt3]
          have hlt' := hid (HLT.out.trans hlt3)
          clear hlt3
          go_wp2_with fail
          go_roundw
          case rel => exact ⟨cc, cc + 1, by go_num, by go_num, by omega, by omega, by omega, by rw [<- HL2.out, leastFrom.eq_1 cl n k cc mm, if_pos ⟨hle, hlt⟩, if_pos hlt'.out], HM3.out⟩
          case measure => simp [intOf]; omega
        · simp only [Bool.not_eq_true] at hlt3
          rw [hlt3]
          have hlt' := hid (HLT.out.trans hlt3)
          clear hlt3
          go_wp2_with fail
          go_roundw
          case rel => exact ⟨mm, cc + 1, by go_num, by go_num, by omega, by omega, by omega, by rw [<- HL2.out, leastFrom.eq_1 cl n k cc mm, if_pos ⟨hle, hlt⟩, if_neg (by rw [hlt'.out]; simp)], HM3.out⟩
          case measure => simp [intOf]; omega
      · have hLm := hid (show L = mm by rw [<- HL2.out, leastFrom.eq_1 cl n k cc mm, if_neg hin])
        by_cases hle : cc <= 2 * k + 2
        · have hlt : ¬ cc < n := fun h => hin ⟨hle, h⟩
          clear hin
          have b0 := qB (i := 0) HM2.out.hp.blk
          have t0 := qB (i := 0) HM2.out.top
          have t1 := qB (i := 1) HM2.out.top
          have r0 := qB (i := 0) HM2.out.res
          have r1 := qB (i := 1) HM2.out.res
          have rf0 := zB (i := 0) HM2.out.res
          have rf1 := zB (i := 1) HM2.out.res
          have hN1 := HM2.out.n1
          simp only [List.getElem?_toArray, List.getElem?_cons_zero, List.getElem?_cons_succ] at b0 t0 t1 r0 r1
          by_cases hmk : mm = k
          · subst hmk
            have hbe : ((mm : Int) == (mm : Int)) = true := by simp
            go_wp2_with fail
            (try simp only [Exit.inBlock, Exit.then])
            refine bodyPost_ret (by simp [results, Tryz.results220, go_sem, r0, r1]; try rfl) rfl ?_
            exact HM2.out.fin (by rw [HT'.out, <- HS.out, siftDown.eq_1 cl n mm, HL.out, hLm.out, if_neg (by omega)])
          · have hbe : ((mm : Int) == (k : Int)) = false := by simp; omega
            have hlm : k < mm /\ mm < n := by
              have := leastFrom_of cl n k (2 * k + 1) k
              rw [HL.out, hLm.out] at this
              omega
            have SW' := hid (swapHp HM2.out.hp hcl k mm (by omega) (by omega) (by omega))
            go_wp2_with fail
            with_reducible refine SW'.out.mono ?_
            rintro e w2 ⟨rfl, hp2, hgr⟩
            have HM3 := hid (HM2.out.swap hp2 hgr)
            clear hp2 hgr b0 t0 t1 r0 r1 rf0 rf1
            go_wp2_with fail
            go_roundw
            case rel => exact ⟨mm, swapL cl k mm, by rw [swapL_length]; exact hcl, by omega, by go_num, by rw [<- HS.out, siftDown.eq_1 cl n k, HL.out, hLm.out, if_pos hlm], HM3.out⟩
            case measure => simp [intOf]; omega
        · clear hin
          have b0 := qB (i := 0) HM2.out.hp.blk
          have t0 := qB (i := 0) HM2.out.top
          have t1 := qB (i := 1) HM2.out.top
          have r0 := qB (i := 0) HM2.out.res
          have r1 := qB (i := 1) HM2.out.res
          have rf0 := zB (i := 0) HM2.out.res
          have rf1 := zB (i := 1) HM2.out.res
          have hN1 := HM2.out.n1
          simp only [List.getElem?_toArray, List.getElem?_cons_zero, List.getElem?_cons_succ] at b0 t0 t1 r0 r1
          by_cases hmk : mm = k
          · subst hmk
            have hbe : ((mm : Int) == (mm : Int)) = true := by simp
            go_wp2_with fail
            (try simp only [Exit.inBlock, Exit.then])
            refine bodyPost_ret (by simp [results, Tryz.results220, go_sem, r0, r1]; try rfl) rfl ?_
            exact HM2.out.fin (by rw [HT'.out, <- HS.out, siftDown.eq_1 cl n mm, HL.out, hLm.out, if_neg (by omega)])
          · have hbe : ((mm : Int) == (k : Int)) = false := by simp; omega
            have hlm : k < mm /\ mm < n := by
              have := leastFrom_of cl n k (2 * k + 1) k
              rw [HL.out, hLm.out] at this
              omega
            have SW' := hid (swapHp HM2.out.hp hcl k mm (by omega) (by omega) (by omega))
            go_wp2_with fail
            with_reducible refine SW'.out.mono ?_
            rintro e w2 ⟨rfl, hp2, hgr⟩
            have HM3 := hid (HM2.out.swap hp2 hgr)
            clear hp2 hgr b0 t0 t1 r0 r1 rf0 rf1
            go_wp2_with fail
            go_roundw
            case rel => exact ⟨mm, swapL cl k mm, by rw [swapL_length]; exact hcl, by omega, by go_num, by rw [<- HS.out, siftDown.eq_1 cl n k, HL.out, hLm.out, if_pos hlm], HM3.out⟩
            case measure => simp [intOf]; omega
end Go.Proofs.YtbikkioipamlmaaGreatDoor.Q18
namespace Go.Proofs.YtbikkioipamlmaaGreatDoor.Q18
theorem bl_irrefl : ∀ x : List UInt8, Op.bytesLess x x = false
  | [] => rfl
  | a :: x => by simp [Op.bytesLess, bl_irrefl x]
theorem bl_trans : ∀ x y z : List UInt8, Op.bytesLess x y = true -> Op.bytesLess y z = true -> Op.bytesLess x z = true
  | _, [], _, h, _ => by simp [Op.bytesLess] at h
  | _, _ :: _, [], _, h => by simp [Op.bytesLess] at h
  | [], _ :: _, _ :: _, _, _ => rfl
  | a :: x, b :: y, c :: z, h, k => by
    simp only [Op.bytesLess, Bool.or_eq_true, decide_eq_true_eq, Bool.and_eq_true, beq_iff_eq] at h k ⊢
    rcases h with h | ⟨h, h'⟩ <;> rcases k with k | ⟨k, k'⟩
    · exact .inl (UInt8.lt_trans h k)
    · exact .inl (k ▸ h)
    · exact .inl (h ▸ k)
    · exact .inr ⟨h.trans k, bl_trans x y z h' k'⟩
theorem bl_total : ∀ x y : List UInt8, Op.bytesLess x y = false -> Op.bytesLess y x = false -> x = y
  | [], [], _, _ => rfl
  | [], _ :: _, h, _ => by simp [Op.bytesLess] at h
  | _ :: _, [], _, h => by simp [Op.bytesLess] at h
  | a :: x, b :: y, h, k => by
    simp only [Op.bytesLess, Bool.or_eq_false_iff, decide_eq_false_iff_not, Bool.and_eq_false_iff, beq_eq_false_iff_ne, ne_eq] at h k
    have hab : a = b := by
      have h1 : ¬ a.toNat < b.toNat := fun e => h.1 (UInt8.lt_iff_toNat_lt.2 e)
      have h2 : ¬ b.toNat < a.toNat := fun e => k.1 (UInt8.lt_iff_toNat_lt.2 e)
      exact UInt8.toNat_inj.1 (by omega)
    subst hab
    rw [bl_total x y (h.2.resolve_left (by simp)) (k.2.resolve_left (by simp))]
theorem toList_inj {a b : ByteArray} (h : a.toList = b.toList) : a = b := by
  rw [ByteArray.toList_eq, ByteArray.toList_eq] at h
  exact WideShapes.bytes_inj h
theorem ltI_iff (a b : Item) : ltI a b = true ↔ a.at' < b.at' \/ a.at' = b.at' /\ ltS a.key b.key = true := by
  unfold ltI orD cmpI cmpS
  rw [decide_eq_true_eq]
  by_cases h1 : a.at' < b.at'
  · simp [h1]
  · by_cases h2 : b.at' < a.at'
    · simp [h1, h2]; omega
    · have e : a.at' = b.at' := by omega
      simp [e]
      by_cases h3 : ltS a.key b.key = true
      · simp [h3]
      · simp [h3]
        split <;> simp
theorem ltI_irrefl (a : Item) : ltI a a = false := by
  rw [<- Bool.not_eq_true, ltI_iff]
  unfold ltS
  rw [bl_irrefl]
  simp
theorem ltI_trans {a b c : Item} (h : ltI a b = true) (k : ltI b c = true) : ltI a c = true := by
  rw [ltI_iff] at h k ⊢
  rcases h with h | ⟨h, h'⟩ <;> rcases k with k | ⟨k, k'⟩
  · exact .inl (by omega)
  · exact .inl (by omega)
  · exact .inl (by omega)
  · exact .inr ⟨by omega, bl_trans _ _ _ h' k'⟩
theorem ltI_total {a b : Item} (h : ltI a b = false) (k : ltI b a = false) : a = b := by
  rw [<- Bool.not_eq_true, ltI_iff] at h k
  have e : a.at' = b.at' := by omega
  have e2 : a.key = b.key := by
    refine toList_inj (bl_total _ _ ?_ ?_)
    · cases hh : Op.bytesLess a.key.toList b.key.toList
      · rfl
      · exact absurd (.inr ⟨e, hh⟩) h
    · cases hh : Op.bytesLess b.key.toList a.key.toList
      · rfl
      · exact absurd (.inr ⟨e.symm, hh⟩) k
  cases a; cases b; simp at e e2; rw [e, e2]
def leI (a b : Item) : Prop := ltI b a = false
theorem leI_refl (a : Item) : leI a a := ltI_irrefl a
theorem leI_of_lt {a b : Item} (h : ltI a b = true) : leI a b := by
  unfold leI
  cases k : ltI b a
  · rfl
  · have := ltI_trans h k
    rw [ltI_irrefl] at this
    cases this
theorem leI_trans {a b c : Item} (h : leI a b) (k : leI b c) : leI a c := by
  unfold leI at *
  cases e : ltI c a
  · rfl
  · cases f : ltI a b
    · rw [ltI_total f h] at e
      rw [e] at k; cases k
    · have := ltI_trans e f
      rw [this] at k; cases k
theorem swapL_get (l : List Item) (i k j : Nat) (hi : i < l.length) (hk : k < l.length) : (swapL l i k)[j]? = if j = k then l[i]? else if j = i then l[k]? else l[j]? := by
  unfold swapL
  rw [List.getElem?_eq_getElem hi, List.getElem?_eq_getElem hk]
  simp only
  rw [List.getElem?_set, List.getElem?_set]
  by_cases h1 : k = j
  · subst h1; simp [hk]
  · by_cases h2 : i = j
    · subst h2; simp [h1, hi, Ne.symm h1]
    · simp [h1, h2, Ne.symm h1, Ne.symm h2]
theorem swapL_perm (l : List Item) (i k : Nat) : (swapL l i k).Perm l := by
  unfold swapL
  split
  · rename_i x y hx hy
    obtain ⟨hi, rfl⟩ := List.getElem?_eq_some_iff.1 hx
    obtain ⟨hk, rfl⟩ := List.getElem?_eq_some_iff.1 hy
    exact List.set_set_perm hi hk
  · exact List.Perm.refl _
theorem siftUp_perm (l : List Item) (i : Nat) : (siftUp l i).Perm l := by
  induction i using Nat.strongRecOn generalizing l with
  | _ i ih =>
    rw [siftUp]
    split
    · exact (ih _ (by omega) _).trans (swapL_perm _ _ _)
    · exact List.Perm.refl _
theorem pushL_perm (l : List Item) (x : Item) : (pushL l x).Perm (x :: l) := (siftUp_perm _ _).trans (List.perm_append_singleton _ _)
theorem siftDown_perm (l : List Item) (n i : Nat) : (siftDown l n i).Perm l := by
  induction h : n - i using Nat.strongRecOn generalizing l i with
  | _ q ih =>
    rw [siftDown]
    split
    · exact (ih _ (by omega) _ _ rfl).trans (swapL_perm _ _ _)
    · exact List.Perm.refl _
def leO (a b : Option Item) : Prop := ∀ x y, a = some x -> b = some y -> leI x y
theorem leO_none (a : Option Item) : leO a none := fun _ _ _ h => by cases h
theorem leO_trans {a c : Option Item} {b : Item} (h : leO a (some b)) (k : leO (some b) c) : leO a c := fun x y hx hy => leI_trans (h x b hx rfl) (k b y rfl hy)
theorem leO_out {l : List Item} {j : Nat} (a : Option Item) (h : l.length <= j) : leO a l[j]? := by
  rw [List.getElem?_eq_none h]; exact leO_none _
def HeapO (l : List Item) : Prop := ∀ i, 0 < i -> leO l[(i - 1) / 2]? l[i]?
theorem siftUp_heap (l : List Item) (i : Nat) (hA : ∀ j, 0 < j -> j ≠ i -> leO l[(j - 1) / 2]? l[j]?) (hB : ∀ j, 0 < j -> (j - 1) / 2 = i -> 0 < i -> leO l[(i - 1) / 2]? l[j]?) : HeapO (siftUp l i) := by
  induction i using Nat.strongRecOn generalizing l with
  | _ i ih =>
    rw [siftUp]
    split
    · rename_i h
      obtain ⟨h0, hlt⟩ := h
      obtain ⟨u, hu⟩ : ∃ u, (i - 1) / 2 = u := ⟨_, rfl⟩
      rw [hu] at hlt ⊢
      obtain ⟨x, y, hx, hy, hxy⟩ : ∃ x y, l[i]? = some x /\ l[u]? = some y /\ ltI x y = true := by
        unfold ltAt at hlt
        split at hlt
        · rename_i x y hx hy; exact ⟨x, y, hx, hy, hlt⟩
        · cases hlt
      have hi := (List.getElem?_eq_some_iff.1 hx).1
      have hul := (List.getElem?_eq_some_iff.1 hy).1
      have g := fun j => swapL_get l i u j hi hul
      have gu : (swapL l i u)[u]? = some x := by rw [g, if_pos rfl, hx]
      have gi : (swapL l i u)[i]? = some y := by rw [g, if_neg (by omega), if_pos rfl, hy]
      have go : ∀ j, j ≠ u -> j ≠ i -> (swapL l i u)[j]? = l[j]? := fun j h1 h2 => by rw [g, if_neg h1, if_neg h2]
      have lxy : leO (some x) (some y) := fun a b ha hb => by cases ha; cases hb; exact leI_of_lt hxy
      refine ih u (by omega) _ ?_ ?_
      · intro j hj hju
        by_cases hji : j = i
        · subst hji; rw [hu, gu, gi]; exact lxy
        · rw [go j hju hji]
          by_cases hp1 : (j - 1) / 2 = i
          · rw [hp1, gi, <- hy, <- hu]
            exact hB j hj hp1 h0
          · by_cases hp2 : (j - 1) / 2 = u
            · rw [hp2, gu]
              have := hA j hj hji
              rw [hp2, hy] at this
              exact leO_trans lxy this
            · rw [go _ hp2 hp1]; exact hA j hj hji
      · intro j hj hp h0u
        have hz := hA u h0u (by omega)
        rw [hy] at hz
        rw [go ((u - 1) / 2) (by omega) (by omega)]
        by_cases hji : j = i
        · subst hji; rw [gi]; exact hz
        · rw [go j (by omega) hji]
          have := hA j hj hji
          rw [hp, hy] at this
          exact leO_trans hz this
    · rename_i h
      intro j hj
      by_cases hji : j = i
      · subst hji
        intro a b ha hb
        unfold leI
        cases hc : ltI b a
        · rfl
        · exact absurd ⟨hj, by unfold ltAt; rw [ha, hb]; exact hc⟩ h
      · exact hA j hj hji
theorem pushL_heap (l : List Item) (x : Item) (h : HeapO l) : HeapO (pushL l x) := by
  unfold pushL
  refine siftUp_heap _ _ (fun j hj hjl => ?_) (fun j hj hp h0 => ?_)
  · by_cases hlt : j < l.length
    · rw [List.getElem?_append_left hlt, List.getElem?_append_left (by omega)]
      exact h j hj
    · exact leO_out _ (by first | omega | (simp; omega))
  · exact leO_out _ (by first | omega | (simp; omega))
theorem leastFrom_min (l : List Item) (n i c m : Nat) (hn : n <= l.length) (hm : m < l.length) : leO l[leastFrom l n i c m]? l[m]? /\ ∀ j, c <= j -> j <= 2 * i + 2 -> j < n -> leO l[leastFrom l n i c m]? l[j]? := by
  induction h : 2 * i + 3 - c generalizing c m with
  | zero =>
    rw [leastFrom, if_neg (by omega)]
    exact ⟨fun a b ha hb => by rw [ha] at hb; cases hb; exact leI_refl _, fun j h1 h2 _ => by omega⟩
  | succ q ih =>
    rw [leastFrom]
    split
    · rename_i hc
      obtain ⟨y, hy⟩ : ∃ y, l[m]? = some y := ⟨_, List.getElem?_eq_getElem hm⟩
      obtain ⟨x, hx⟩ : ∃ x, l[c]? = some x := ⟨_, List.getElem?_eq_getElem (by omega)⟩
      have hl : ltAt l c m = ltI x y := by unfold ltAt; rw [hx, hy]
      rw [hl]
      by_cases hxy : ltI x y = true
      · rw [if_pos hxy]
        obtain ⟨h1, h2⟩ := ih (c + 1) c (by omega) (by omega)
        rw [hx] at h1
        refine ⟨?_, fun j hj1 hj2 hj3 => ?_⟩
        · rw [hy]; exact leO_trans h1 (fun a b ha hb => by cases ha; cases hb; exact leI_of_lt hxy)
        · by_cases hjc : j = c
          · subst hjc; rw [hx]; exact h1
          · exact h2 j (by omega) hj2 hj3
      · rw [if_neg hxy]
        simp only [Bool.not_eq_true] at hxy
        obtain ⟨h1, h2⟩ := ih (c + 1) m hm (by omega)
        refine ⟨h1, fun j hj1 hj2 hj3 => ?_⟩
        by_cases hjc : j = c
        · subst hjc; rw [hx]; rw [hy] at h1
          exact leO_trans h1 (fun a b ha hb => by cases ha; cases hb; exact hxy)
        · exact h2 j (by omega) hj2 hj3
    · exact ⟨fun a b ha hb => by rw [ha] at hb; cases hb; exact leI_refl _, fun j h1 h2 h3 => by omega⟩
theorem leastFrom_le (l : List Item) (n i c m : Nat) (hc : c <= 2 * i + 3) (hm : m <= 2 * i + 2) : leastFrom l n i c m <= 2 * i + 2 := by
  induction h : 2 * i + 3 - c generalizing c m with
  | zero => rw [leastFrom, if_neg (by omega)]; exact hm
  | succ q ih =>
    rw [leastFrom]
    split
    · refine ih (c + 1) _ (by omega) ?_ (by omega)
      split <;> omega
    · exact hm
theorem siftDown_heap (l : List Item) (n i : Nat) (hn : l.length = n) (hi : i < n \/ n = 0) (hA : ∀ j, 0 < j -> (j - 1) / 2 ≠ i -> leO l[(j - 1) / 2]? l[j]?) (hB : ∀ j, 0 < j -> (j - 1) / 2 = i -> 0 < i -> leO l[(i - 1) / 2]? l[j]?) : HeapO (siftDown l n i) := by
  induction h : n - i using Nat.strongRecOn generalizing l i with
  | _ q ih =>
    rw [siftDown]
    rcases hi with hi | h0
    · have hm := leastFrom_of l n i (2 * i + 1) i
      have hr : leastFrom l n i (2 * i + 1) i <= 2 * i + 2 := leastFrom_le l n i (2 * i + 1) i (by omega) (by omega)
      obtain ⟨h1, h2⟩ := leastFrom_min l n i (2 * i + 1) i (by omega) (by omega)
      obtain ⟨m, hmm⟩ : ∃ m, leastFrom l n i (2 * i + 1) i = m := ⟨_, rfl⟩
      rw [hmm] at hm h1 h2 hr ⊢
      split
      · rename_i hc
        have hpm : (m - 1) / 2 = i := by omega
        obtain ⟨x, hx⟩ : ∃ x, l[m]? = some x := ⟨_, List.getElem?_eq_getElem (by omega)⟩
        obtain ⟨y, hy⟩ : ∃ y, l[i]? = some y := ⟨_, List.getElem?_eq_getElem (by omega)⟩
        have g := fun j => swapL_get l i m j (by omega) (by omega)
        have gm : (swapL l i m)[m]? = some y := by rw [g, if_pos rfl, hy]
        have gi : (swapL l i m)[i]? = some x := by rw [g, if_neg (by omega), if_pos rfl, hx]
        have go : ∀ j, j ≠ m -> j ≠ i -> (swapL l i m)[j]? = l[j]? := fun j h1 h2 => by rw [g, if_neg h1, if_neg h2]
        rw [hx, hy] at h1
        refine ih (n - m) (by omega) _ _ (by rw [swapL_length]; exact hn) (.inl hc.2) ?_ ?_ rfl
        · intro j hj hp
          by_cases hjm : j = m
          · subst hjm; rw [hpm, gi, gm]; exact h1
          · by_cases hji : j = i
            · subst hji; rw [gi, go _ (by omega) (by omega), <- hx]
              exact hB m (by omega) hpm hj
            · rw [go j hjm hji]
              by_cases hpi : (j - 1) / 2 = i
              · rw [hpi, gi, <- hx]
                by_cases hjn : j < n
                · exact h2 j (by omega) (by omega) hjn
                · exact leO_out _ (by first | omega | (simp; omega))
              · rw [go _ hp hpi]; exact hA j hj hpi
        · intro j hj hp _
          rw [hpm, gi, go j (by omega) (by omega), <- hx, <- hp]
          exact hA j hj (by omega)
      · rename_i hc
        obtain rfl : m = i := by omega
        intro j hj
        by_cases hp : (j - 1) / 2 = m
        · rw [hp]
          by_cases hjn : j < n
          · exact h2 j (by omega) (by omega) hjn
          · exact leO_out _ (by first | omega | (simp; omega))
        · exact hA j hj hp
    · rw [if_neg (by omega)]
      intro j hj
      exact leO_out _ (by first | omega | (simp; omega))
theorem popTop_heap (l : List Item) (n : Nat) (hn : l.length = n + 1) (h : HeapO l) : HeapO (popTop l n) := by
  unfold popTop
  have hl : ((swapL l 0 n).take n).length = n := by rw [List.length_take, swapL_length]; omega
  have g : ∀ j, 0 < j -> j < n -> ((swapL l 0 n).take n)[j]? = l[j]? := fun j h1 h2 => by
    rw [List.getElem?_take, if_pos h2, swapL_get l 0 n j (by omega) (by omega), if_neg (by omega), if_neg (by omega)]
  refine siftDown_heap _ n 0 hl (by omega) (fun j hj hp => ?_) (fun _ _ _ h0 => by omega)
  by_cases hjn : j < n
  · rw [g j hj hjn, g _ (by omega) (by omega)]; exact h j hj
  · exact leO_out _ (by first | omega | (simp; omega))
theorem popTop_perm (l : List Item) (n : Nat) (hn : l.length = n + 1) (y : Item) (hy : l[0]? = some y) : l.Perm (y :: popTop l n) := by
  unfold popTop
  have hp := swapL_perm l 0 n
  have hl : (swapL l 0 n).length = n + 1 := by rw [swapL_length, hn]
  have hlast : (swapL l 0 n)[n]? = some y := by rw [swapL_last l n (by omega)]; exact hy
  have hsplit : swapL l 0 n = (swapL l 0 n).take n ++ [y] := by
    obtain ⟨hb, he⟩ := List.getElem?_eq_some_iff.1 hlast
    have := List.take_succ_eq_append_getElem hb
    rw [he, List.take_of_length_le (by omega)] at this
    exact this
  refine hp.symm.trans ?_
  rw [hsplit]
  refine (List.perm_append_singleton _ _).trans (List.Perm.cons _ ?_)
  rw [<- hsplit]
  exact (siftDown_perm _ _ _).symm
theorem heap_least (l : List Item) (h : HeapO l) (y : Item) (hy : l[0]? = some y) : ∀ x ∈ l, leI y x := by
  have key : ∀ (j : Nat) (x : Item), l[j]? = some x -> leI y x := by
    intro j
    induction j using Nat.strongRecOn with
    | _ j ih =>
      intro x hx
      by_cases h0 : j = 0
      · subst h0; rw [hy] at hx; cases hx; exact leI_refl _
      · have hj := (List.getElem?_eq_some_iff.1 hx).1
        obtain ⟨z, hz⟩ : ∃ z, l[(j - 1) / 2]? = some z := ⟨_, List.getElem?_eq_getElem (by omega)⟩
        exact leI_trans (ih _ (by omega) z hz) (h j (by omega) z x hz hx)
  intro x hx
  obtain ⟨j, hj⟩ := List.getElem?_of_mem hx
  exact key j x hj
end Go.Proofs.YtbikkioipamlmaaGreatDoor.Q18
namespace Go.Proofs.YtbikkioipamlmaaGreatDoor.Q18
open Go.Maps
def look : List Item -> ByteArray -> Int
  | [], _ => 0
  | x :: l, k => if x.key = k then x.at' else look l k
def remL (l : List Item) (k : ByteArray) : List Item := l.filter (fun x => decide (x.key ≠ k))
def insL : List Item -> Item -> List Item
  | [], x => [x]
  | y :: l, x => if ltI y x = true then y :: insL l x else x :: y :: l
def putL (l : List Item) (k : ByteArray) (a : Int) : List Item := if a < 1 then remL l k else insL (remL l k) ⟨k, a⟩
structure Rising (l : List Item) : Prop where
  up : l.Pairwise (fun a b => ltI a b = true)
  keys : l.Pairwise (fun a b => a.key ≠ b.key)
  pos : ∀ x ∈ l, 1 <= x.at'
theorem Rising.nil : Rising [] := ⟨List.Pairwise.nil, List.Pairwise.nil, by simp⟩
theorem Rising.tail {x : Item} {l : List Item} (h : Rising (x :: l)) : Rising l := ⟨(List.pairwise_cons.1 h.up).2, (List.pairwise_cons.1 h.keys).2, fun y hy => h.pos y (List.mem_cons_of_mem _ hy)⟩
theorem look_mem {l : List Item} {k : ByteArray} (h : look l k ≠ 0) : ⟨k, look l k⟩ ∈ l := by
  induction l with
  | nil => simp [look] at h
  | cons x l ih =>
    unfold look at h ⊢
    split
    · rename_i he; subst he; simp
    · rename_i he
      rw [if_neg he] at h
      exact List.mem_cons_of_mem _ (ih h)
theorem look_of_mem {l : List Item} (h : l.Pairwise (fun a b => a.key ≠ b.key)) {x : Item} (hx : x ∈ l) : look l x.key = x.at' := by
  induction l with
  | nil => simp at hx
  | cons y l ih =>
    obtain ⟨h1, h2⟩ := List.pairwise_cons.1 h
    unfold look
    rcases List.mem_cons.1 hx with rfl | hx
    · rw [if_pos rfl]
    · rw [if_neg (h1 x hx)]; exact ih h2 hx
theorem look_none {l : List Item} {k : ByteArray} (h : ∀ x ∈ l, x.key ≠ k) : look l k = 0 := by
  induction l with
  | nil => rfl
  | cons x l ih =>
    unfold look
    rw [if_neg (h x (by simp))]
    exact ih (fun y hy => h y (List.mem_cons_of_mem _ hy))
theorem mem_remL {l : List Item} {k : ByteArray} {x : Item} : x ∈ remL l k ↔ x ∈ l /\ x.key ≠ k := by simp [remL]
theorem look_rem_same (l : List Item) (k : ByteArray) : look (remL l k) k = 0 := look_none (fun _ hx => (mem_remL.1 hx).2)
theorem look_rem_other (l : List Item) {k k' : ByteArray} (h : k' ≠ k) : look (remL l k) k' = look l k' := by
  induction l with
  | nil => rfl
  | cons x l ih =>
    unfold remL at ih ⊢
    rw [List.filter_cons]
    by_cases hx : x.key = k
    · rw [if_neg (by simp [hx])]
      conv => rhs; unfold look
      rw [if_neg (by rw [hx]; exact Ne.symm h)]
      exact ih
    · rw [if_pos (by simp [hx])]
      unfold look
      rw [ih]
theorem Rising.rem {l : List Item} (h : Rising l) (k : ByteArray) : Rising (remL l k) := ⟨h.up.filter _, h.keys.filter _, fun x hx => h.pos x (mem_remL.1 hx).1⟩
theorem mem_insL {l : List Item} {x y : Item} : y ∈ insL l x ↔ y = x \/ y ∈ l := by
  induction l with
  | nil => simp [insL]
  | cons z l ih =>
    unfold insL
    split
    · rw [List.mem_cons, ih, List.mem_cons]
      constructor
      · rintro (h | h | h)
        · exact .inr (.inl h)
        · exact .inl h
        · exact .inr (.inr h)
      · rintro (h | h | h)
        · exact .inr (.inl h)
        · exact .inl h
        · exact .inr (.inr h)
    · rw [List.mem_cons]
theorem insL_length (l : List Item) (x : Item) : (insL l x).length = l.length + 1 := by
  induction l with
  | nil => rfl
  | cons z l ih => unfold insL; split <;> simp [ih]
theorem look_ins_same (l : List Item) (x : Item) (h : ∀ y ∈ l, y.key ≠ x.key) : look (insL l x) x.key = x.at' := by
  induction l with
  | nil => simp [insL, look]
  | cons z l ih =>
    unfold insL
    split
    · unfold look; rw [if_neg (h z (by simp))]; exact ih (fun y hy => h y (List.mem_cons_of_mem _ hy))
    · unfold look; rw [if_pos rfl]
theorem look_ins_other (l : List Item) (x : Item) {k : ByteArray} (h : k ≠ x.key) : look (insL l x) k = look l k := by
  induction l with
  | nil => simp [insL, look, Ne.symm h]
  | cons z l ih =>
    unfold insL
    split
    · unfold look; rw [ih]
    · conv => lhs; unfold look
      rw [if_neg (Ne.symm h)]
theorem Rising.ins {l : List Item} (h : Rising l) (x : Item) (hk : ∀ y ∈ l, y.key ≠ x.key) (hx : 1 <= x.at') : Rising (insL l x) := by
  refine ⟨?_, ?_, fun y hy => ?_⟩
  · induction l with
    | nil => simp [insL]
    | cons z l ih =>
      unfold insL
      obtain ⟨h1, h2⟩ := List.pairwise_cons.1 h.up
      split
      · rename_i hz
        refine List.pairwise_cons.2 ⟨fun y hy => ?_, ih h.tail (fun y hy => hk y (List.mem_cons_of_mem _ hy))⟩
        rcases mem_insL.1 hy with rfl | hy
        · exact hz
        · exact h1 y hy
      · rename_i hz
        simp only [Bool.not_eq_true] at hz
        have hxz : ltI x z = true := by
          cases e : ltI x z
          · have := ltI_total e hz
            exact absurd (by rw [this]) (hk z (by simp))
          · rfl
        refine List.pairwise_cons.2 ⟨fun y hy => ?_, h.up⟩
        rcases List.mem_cons.1 hy with rfl | hy
        · exact hxz
        · exact ltI_trans hxz (h1 y hy)
  · have hp : (insL l x).Perm (x :: l) := by
      induction l with
      | nil => exact List.Perm.refl _
      | cons z l ih =>
        unfold insL
        split
        · exact ((ih h.tail (fun y hy => hk y (List.mem_cons_of_mem _ hy))).cons z).trans (List.Perm.swap _ _ _)
        · exact List.Perm.refl _
    exact (hp.pairwise_iff (fun {_ _} hne => Ne.symm hne)).2 (List.pairwise_cons.2 ⟨fun y hy => Ne.symm (hk y hy), h.keys⟩)
  · rcases mem_insL.1 hy with rfl | hy
    · exact hx
    · exact h.pos y hy
theorem remL_length {l : List Item} (h : Rising l) (k : ByteArray) : (remL l k).length + (if look l k ≠ 0 then 1 else 0) = l.length := by
  induction l with
  | nil => simp [remL, look]
  | cons x l ih =>
    have ih := ih h.tail
    unfold remL at ih ⊢
    rw [List.filter_cons]
    by_cases hx : x.key = k
    · rw [if_neg (by simp [hx])]
      have hp := h.pos x (by simp)
      have e0 : look l k = 0 := look_none (fun y hy => by rw [<- hx]; exact Ne.symm ((List.pairwise_cons.1 h.keys).1 y hy))
      have e1 : look (x :: l) k = x.at' := by unfold look; rw [if_pos hx]
      rw [e0, if_neg (by simp)] at ih
      rw [e1, if_pos (by omega)]
      simp at ih ⊢
      exact ih
    · rw [if_pos (by simp [hx])]
      have e1 : look (x :: l) k = look l k := by conv => lhs; unfold look
                                                 rw [if_neg hx]
      rw [e1, List.length_cons, List.length_cons]
      omega
def klit (k : ByteArray) : Lit := .string k.data.toList
theorem klit_inj {a b : ByteArray} (h : a ≠ b) : klit a ≠ klit b := fun e => h (WideShapes.bytes_inj (by unfold klit at e; injection e))
theorem klit_key (k : ByteArray) : WideAt.IsKeyLit (klit k) := trivial
def zlit (a : Int) : DataW Nat := .lit (.int .i64 a)
structure Agree (D : DataW Nat) (l : List Item) : Prop where
  at' : ∀ k, D.atKey (klit k) (zlit 0) = zlit (look l k)
  has : ∀ k, Maps.has D (klit k) = decide (look l k ≠ 0)
  size : Maps.size D = l.length
theorem Agree.nil : Agree (.map []) [] := ⟨fun _ => rfl, fun _ => rfl, rfl⟩
theorem Agree.del {D : DataW Nat} {l : List Item} (hT : Maps.Tidy D) (hr : Rising l) (h : Agree D l) (k : ByteArray) : Agree (D.del (klit k)) (remL l k) := by
  refine ⟨fun k' => ?_, fun k' => ?_, ?_⟩
  · by_cases hk : k' = k
    · subst hk; rw [Maps.atKey_del_same, look_rem_same]
    · rw [Maps.atKey_del_other (klit_inj hk), look_rem_other l hk]; exact h.at' k'
  · by_cases hk : k' = k
    · subst hk; rw [Maps.has_del_same, look_rem_same]; rfl
    · rw [Maps.has_del_other (klit_inj hk), look_rem_other l hk]; exact h.has k'
  · have e1 := Maps.size_del (k := klit k) hT
    have e2 := remL_length hr k
    rw [h.has k, h.size] at e1
    simp only [decide_eq_true_eq] at e1
    omega
theorem Agree.put {D : DataW Nat} {l : List Item} (hT : Maps.Tidy D) (h : Agree D l) (x : Item) (hx : 1 <= x.at') (hk : ∀ y ∈ l, y.key ≠ x.key) : Agree (D.put (klit x.key) (zlit x.at')) (insL l x) := by
  refine ⟨fun k' => ?_, fun k' => ?_, ?_⟩
  · by_cases hk' : k' = x.key
    · subst hk'; rw [Maps.atKey_put_same hT.isMap (klit_key _), look_ins_same l x hk]
    · rw [Maps.atKey_put_other (klit_inj hk'), look_ins_other l x hk']; exact h.at' k'
  · by_cases hk' : k' = x.key
    · subst hk'; rw [Maps.has_put_same hT.isMap (klit_key _), look_ins_same l x hk]
      symm; rw [decide_eq_true_eq]; omega
    · rw [Maps.has_put_other (klit_inj hk'), look_ins_other l x hk']; exact h.has k'
  · rw [Maps.size_put hT, h.has, look_none hk, h.size, insL_length]
    rfl
end Go.Proofs.YtbikkioipamlmaaGreatDoor.Q18
namespace Go.Proofs.YtbikkioipamlmaaGreatDoor.Q18
open Go.Maps Go.RowKit
theorem strK : Keyed prog 9 := string_keyed Tryz.underlying9
abbrev OM (w : World) (mb m : Nat) (D : DataW Nat) : Prop := w.ownsMap prog 9 (plainElem prog 3) mb m D
theorem keyK {k : ByteArray} (h : k.size <= maxLen) : keyOf prog 9 (.string k) = some (klit k) := WideMaps.keyOf_string_mk Tryz.underlying9 h
theorem mapT : prog.underlying 342 = some (.map 9 3) := Tryz.underlying342
theorem valE {a : Int} (h : (Lit.int .i64 a).wf = true) : plainElem (H := Nat) prog 3 (.int .i64 a) = some (zlit a, []) := plainElem_int Tryz.underlying3 h
structure Qd (w : World) (b N : Nat) (v : Value) (l : List Item) (mb m : Nat) (D : DataW Nat) (L : List Item) : Prop where
  hp : Hp w b 0 v l (.map (some mb))
  om : OM w mb m D
  mN : m <= N
  lN : l.length <= N
  ag : Agree D L
  ri : Rising L
  ho : HeapO l
  sub : ∀ x ∈ L, x ∈ l
  fit : ∀ x ∈ l, 1 <= x.at' /\ x.key.size <= maxLen
def foot (b : Nat) (v : Value) (mb : Nat) : Nat -> Prop := fun k => k = b \/ v.ownBlock = some k \/ k = mb
def QOk (w : World) (b N : Nat) (S : Nat -> Prop) (L : List Item) : Prop := ∃ v l mb m D, Qd w b N v l mb m D L /\ S = foot b v mb
theorem OM.frame {w w' : World} {mb m : Nat} {D : DataW Nat} {S : Nat -> Prop} (h : OM w mb m D) (hf : Fr S w w') (hS : ¬ S mb) : OM w' mb m D := by
  have hlt := h.lt
  obtain ⟨es, clock, hb, F, hs, hD⟩ := h
  exact ⟨es, clock, (hf.block mb hlt hS).trans hb, F, hs, hD⟩
theorem Hp.frame {w w' : World} {b base : Nat} {v mp : Value} {l : List Item} {S : Nat -> Prop} (h : Hp w b base v l mp) (hf : Fr S w w') (hb : ¬ S b) (hv : ∀ g, v.ownBlock = some g -> ¬ S g) : Hp w' b base v l mp :=
  ⟨by rw [hf.block b (lB h.blk) hb]; exact h.blk, own_fr h.own hf hv⟩
theorem QOk.frame {w w' : World} {b N : Nat} {S T : Nat -> Prop} {L : List Item} (h : QOk w b N S L) (hf : Fr T w w') (hd : ∀ k, S k -> ¬ T k) : QOk w' b N S L := by
  obtain ⟨v, l, mb, m, D, q, rfl⟩ := h
  exact ⟨v, l, mb, m, D, ⟨q.hp.frame hf (hd _ (.inl rfl)) (fun g hg => hd _ (.inr (.inl hg))), q.om.frame hf (hd _ (.inr (.inr rfl))), q.mN, q.lN, q.ag, q.ri, q.ho, q.sub, q.fit⟩, rfl⟩
theorem QOk.lt {w : World} {b N : Nat} {S : Nat -> Prop} {L : List Item} (h : QOk w b N S L) : ∀ k, S k -> k < w.heap.size := by
  obtain ⟨v, l, mb, m, D, q, rfl⟩ := h
  rintro k (rfl | h | rfl)
  · exact lB q.hp.blk
  · exact (q.hp.own.lt k h).2
  · exact q.om.lt
theorem Qd.mb_ne {w : World} {b N : Nat} {v : Value} {l : List Item} {mb m : Nat} {D : DataW Nat} {L : List Item} (q : Qd w b N v l mb m D L) : mb ≠ b /\ ∀ g, v.ownBlock = some g -> g ≠ mb := by
  obtain ⟨es, clock, hb, _⟩ := q.om
  refine ⟨fun e => ?_, fun g hg e => ?_⟩
  · subst e; rw [q.hp.blk] at hb; cases hb
  · subst e
    rcases q.hp.own.2 with ⟨rfl, _⟩ | ⟨g', cap, cur, rfl, _, hh, _⟩
    · simp [Value.ownBlock] at hg
    · simp [Value.ownBlock] at hg; subst hg; rw [hb] at hh; cases hh
theorem drop_queue {w w' : World} {b N : Nat} {v : Value} {l : List Item} {mb m : Nat} {D : DataW Nat} {L : List Item} (q : Qd w b N v l mb m D L) (k : ByteArray) (ho : OM w' mb m (D.del (klit k))) (ht : w.mapTurned w' mb) :
    Qd w' b N v l mb m (D.del (klit k)) (remL L k) /\ Fr (fun j => j = mb) w w' := by
  have hg := ht.grown
  have hf : Fr (fun j => j = mb) w w' := .of_grown hg (by rintro j e; cases e; rfl)
  obtain ⟨h1, h2⟩ := q.mb_ne
  exact ⟨⟨q.hp.frame hf (fun e => h1 e.symm) (fun g hg e => h2 g hg e), ho, q.mN, q.lN, q.ag.del (q.om.tidy strK) q.ri k, q.ri.rem k, q.ho, fun x hx => q.sub x (mem_remL.1 hx).1, q.fit⟩, hf⟩
theorem remove14 (b N : Nat) (S : Nat -> Prop) (L : List Item) (k : ByteArray) (hk : k.size <= maxLen) (w : World) (h : QOk w b N S L) :
    Calls prog 222 #[.pointer (some ⟨b, 0, none⟩), .string k] w fun e w' => NoRes e /\ QOk w' b N S (remL L k) /\ Fr S w w' := by
  obtain ⟨v, l, mb, m, D, q, rfl⟩ := h
  have c2 := qB (i := 2) q.hp.blk
  simp only [List.getElem?_toArray, List.getElem?_cons_zero, List.getElem?_cons_succ] at c2
  have OMH := hid q.om
  have Q := hid q
  have HK := hid (keyK hk)
  clear q
  go_enter Tryz.func222, Tryz.ntmps222
  go_wp2_with (first | (at_delete; (refine wpList_delete_own _ rfl _ _ 342 9 rfl 3 strK mapT (plainElem prog 3) mb m D rfl OMH.out _ (klit k) rfl HK.out ?_); intro w1 hown1 hturn1) | fail)
  go_end0
  obtain ⟨q1, hf⟩ := drop_queue Q.out k hown1 hturn1
  exact ⟨rfl, ⟨v, l, mb, m, _, q1, rfl⟩, hf.mono (fun j _ e => .inr (.inr e))⟩
theorem new7 (w : World) : Calls prog 245 #[] w fun e w' => ∃ b S, e = .returned (.pointer (some ⟨b, 0, none⟩)) /\ QOk w' b 0 S [] /\ Fr (fun _ => False) w w' /\ ∀ k, S k -> w.heap.size <= k := by
  go_enter Tryz.func245, Tryz.ntmps245
  have hm := run_makeMap (P := prog) 342 w
  go_wp2_with fail
  go_ret
  refine ⟨w.heap.size + 1, foot (w.heap.size + 1) (.slice none 0 0) w.heap.size, rfl, ⟨.slice none 0 0, [], w.heap.size, 0, .map [], ?_, rfl⟩, Fr.alloc (Fr.alloc (Fr.refl _ _) _) _, ?_⟩
  · have hob : ∀ o, ((w.alloc (.map #[] 0)).alloc o).heap[w.heap.size + 1]? = some o := fun o => by
      show ((w.heap.push _).push o)[w.heap.size + 1]? = some o
      rw [Array.getElem?_push, Array.size_push, if_pos rfl]
    exact ⟨⟨hob _, ⟨rfl, .inl ⟨rfl, rfl⟩⟩⟩, (World.ownsMap_made w prog _ _).alloc _, Nat.le_refl _, Nat.le_refl _, .nil, .nil, fun j _ => leO_none _, by simp, by simp⟩
  · rintro k (rfl | h | rfl)
    · omega
    · simp [Value.ownBlock] at h
    · exact Nat.le_refl _
def nextA : List Item -> Int
  | [] => 0
  | x :: _ => x.at'
def nextB : List Item -> Bool
  | [] => false
  | _ :: _ => true
theorem top_head {w : World} {b N : Nat} {v : Value} {l : List Item} {mb m : Nat} {D : DataW Nat} {L : List Item} (q : Qd w b N v l mb m D L) {y : Item} (hy : l[0]? = some y) (h : look L y.key = y.at') :
    ∃ L', L = y :: L' := by
  have hyl : y ∈ l := List.mem_of_getElem? hy
  have hp := (q.fit y hyl).1
  have hin : y ∈ L := by
    have := look_mem (l := L) (k := y.key) (by omega)
    rw [h] at this
    exact this
  cases L with
  | nil => simp at hin
  | cons x L' =>
    have hx : leI y x := heap_least l q.ho y hy x (q.sub x (by simp))
    rcases List.mem_cons.1 hin with rfl | hin
    · exact ⟨L', rfl⟩
    · have := (List.pairwise_cons.1 q.ri.up).1 y hin
      unfold leI at hx
      rw [this] at hx
      cases hx
theorem popped {w w' : World} {b N n g cap : Nat} {l : List Item} {mb m : Nat} {D : DataW Nat} {L : List Item} (q : Qd w b N (.slice (some ⟨g, 0, none⟩) (n + 1) cap) l mb m D L) (hn : l.length = n + 1) {y : Item} (hy : l[0]? = some y)
    (h : look L y.key ≠ y.at') (hp : Hp w' b 0 (.slice (some ⟨g, 0, none⟩) n cap) (popTop l n) (.map (some mb))) (hf : Fr (fun k => k = b \/ k = g) w w') : Qd w' b N (.slice (some ⟨g, 0, none⟩) n cap) (popTop l n) mb m D L := by
  obtain ⟨h1, h2⟩ := q.mb_ne
  have hperm := popTop_perm l n hn y hy
  refine ⟨hp, q.om.frame hf (by rintro (e | e); exact h1 e; exact h2 g rfl e.symm), q.mN, ?_, q.ag, q.ri, popTop_heap l n hn q.ho, fun x hx => ?_, fun x hx => q.fit x (hperm.mem_iff.2 (List.mem_cons_of_mem _ hx))⟩
  · have := hperm.length_eq
    simp at this
    have := q.lN
    omega
  · rcases List.mem_cons.1 (hperm.mem_iff.1 (q.sub x hx)) with rfl | h'
    · exact absurd (look_of_mem q.ri.keys hx) h
    · exact h'
theorem Qd.below {w w' : World} {b N : Nat} {v : Value} {l : List Item} {mb m : Nat} {D : DataW Nat} {L : List Item} (q : Qd w b N v l mb m D L) (hb : Below w.heap.size w w') : Qd w' b N v l mb m D L :=
  ⟨q.hp.below hb, q.om.frame (S := fun _ => False) (.of_below hb) (fun f => f), q.mN, q.lN, q.ag, q.ri, q.ho, q.sub, q.fit⟩
theorem Qd.form {w : World} {b N : Nat} {v : Value} {l : List Item} {mb m : Nat} {D : DataW Nat} {L : List Item} (q : Qd w b N v l mb m D L) : (l = [] /\ v = .slice none 0 0) \/ ∃ g cap, v = .slice (some ⟨g, 0, none⟩) l.length cap := by
  rcases q.hp.own.2 with ⟨h, hl⟩ | ⟨g, cap, _, h, _⟩
  · exact .inl ⟨List.length_eq_zero_iff.1 hl, h⟩
  · exact .inr ⟨g, cap, h⟩
theorem next17 (b N : Nat) (v : Value) (l : List Item) (mb m : Nat) (D : DataW Nat) (L : List Item) (w : World) (hN : N <= 1000000) (h : Qd w b N v l mb m D L) :
    Calls prog 219 #[.pointer (some ⟨b, 0, none⟩)] w fun e w' =>
      e = .returned (.tuple #[.int .i64 (nextA L), .bool (nextB L)]) /\ ∃ v' l', Qd w' b N v' l' mb m D L /\ v'.ownBlock = v.ownBlock /\ (nextB L = true -> l'[0]? = L.head?) /\ Fr (fun k => k = b \/ v.ownBlock = some k) w w' := by
  have HQ := hid h
  clear h
  go_enter Tryz.func219, Tryz.ntmps219
  go_wp2_with fail
  go_loopg [2, 3, 4] l.length (fun gk _ _ _ wr => ∃ v' l', l'.length = gk /\ Qd wr b N v' l' mb m D L /\ v'.ownBlock = v.ownBlock /\ Fr (fun k => k = b \/ v.ownBlock = some k) w wr)
  case atStart => exact ⟨v, l, rfl, HQ.out, rfl, Fr.refl _ _⟩
  case round =>
    obtain ⟨v', l', hgk, q, hv, hf⟩ := hrel
    have HV := hid hv
    have HF := hid hf
    have HGK := hid hgk
    have b0 := qB (i := 0) q.hp.blk
    have b2 := qB (i := 2) q.hp.blk
    simp only [List.getElem?_toArray, List.getElem?_cons_zero, List.getElem?_cons_succ] at b0 b2
    clear hv hf hgk
    rcases Nat.eq_zero_or_pos l'.length with h0 | hpos
    · obtain rfl : l' = [] := List.length_eq_zero_iff.1 h0
      have hL : L = [] := List.eq_nil_iff_forall_not_mem.2 (fun x hx => by simpa using q.sub x hx)
      have HL := hid hL
      obtain ⟨a, cap, hav⟩ : ∃ a cap, v' = .slice a 0 cap := by
        rcases q.form with ⟨_, h⟩ | ⟨g, cap, h⟩
        · exact ⟨_, _, h⟩
        · exact ⟨_, _, h⟩
      subst hav
      have Q := hid q
      clear q hL h0
      go_wp2_with fail
      go_ret2
      exact ⟨by rw [HL.out]; rfl, _, _, Q.out, HV.out, by rw [HL.out]; simp [nextB], HF.out⟩
    · obtain ⟨n, hn⟩ : ∃ n, l'.length = n + 1 := ⟨l'.length - 1, by omega⟩
      obtain ⟨g, cap, hav⟩ : ∃ g cap, v' = .slice (some ⟨g, 0, none⟩) (n + 1) cap := by
        rcases q.form with ⟨h, _⟩ | ⟨g, cap, h⟩
        · subst h; simp at hn
        · exact ⟨g, cap, by rw [h, hn]⟩
      subst hav
      obtain ⟨y, hy⟩ : ∃ y, l'[0]? = some y := ⟨_, List.getElem?_eq_getElem (by omega)⟩
      obtain ⟨y0, y1⟩ := itemCells_at l' 0 y hy
      have own := q.hp.own
      rw [hn] at own
      have d0 := own.cellAt 0 (by omega)
      have d1 := own.cellAt 1 (by omega)
      rw [show (0 : Nat) * 2 = 0 from rfl] at y0 y1
      rw [y0] at d0; rw [y1] at d1
      obtain ⟨c, hlk, hat, _⟩ := World.ownsMap.lookup_int ((q.om.alloc (.cells #[.string y.key, .int .i64 y.at'] 337)).drew) strK mapT Tryz.underlying3 (by rfl) (keyK (q.fit y (List.mem_of_getElem? hy)).2)
      have hc : c = look L y.key := by
        have := q.ag.at' y.key
        unfold zlit at this
        rw [hat] at this
        injection this with this
        injection this
      have HC := hid hc
      have HY := hid hy
      have Q := hid q
      have blt := lB q.hp.blk
      have hnn : (0 : Int) < n + 1 := by omega
      clear q own y0 y1 hc hy hat
      have hbel : Below wr.heap.size wr (wr.alloc (.cells #[.string y.key, .int .i64 y.at'] 337)).drew := ((Below.refl _ _).alloc (Nat.le_refl _) _).drew
      have Q2 := hid (Q.out.below hbel)
      have HF2 := hid (HF.out.trans (.of_below (S := fun _ => False) hbel) (fun _ f => f.elim))
      clear hbel
      by_cases hcy : c = y.at'
      · have hbe : (c == y.at') = true := by simp [hcy]
        have TH := hid (top_head Q.out HY.out (HC.out ▸ hcy))
        clear hcy
        go_wp2_with fail
        go_region
        go_wp2_with fail
        go_ret2
        obtain ⟨L', hL⟩ := TH.out
        exact ⟨by rw [hL]; rfl, _, _, Q2.out, HV.out, by rw [hL]; intro _; exact HY.out, HF2.out⟩
      · have hbe : (c == y.at') = false := by simp [hcy]
        have hne := hid (show look L y.key ≠ y.at' from HC.out ▸ hcy)
        have PO := hid (pop21 b 0 g n cap (.map (some mb)) l' y _ hn (by have := Q.out.lN; omega) HY.out Q2.out.hp)
        clear hcy
        go_wp2_with fail
        go_region
        go_wp2_with fail
        with_reducible refine PO.out.mono ?_
        rintro e w2 ⟨rfl, hp2, hf2⟩
        have Q3 := hid (popped Q2.out hn HY.out hne.out hp2 hf2)
        have HF3 := hid (HF2.out.trans hf2 (by rintro j (e | e); exact .inl (.inl e); exact .inl (.inr (by rw [<- HV.out, e]; rfl))))
        have HL := hid (show (popTop l' n).length = n by
          have := (popTop_perm l' n hn y HY.out).length_eq
          simp at this; omega)
        clear hp2 hf2
        go_wp2_with fail
        go_roundg n
        case rel => exact ⟨_, _, HL.out, Q3.out, HV.out, HF3.out⟩
        case measure => have := HGK.out; omega
theorem step_delete {H : Type} {P : Program} {w : World} {ops : Array Oper} {o : Oper} {a : Act} {K : Act -> World -> Prop} {Q : Exit -> Act -> World -> Prop} {E : Prop} (hgd : o.guard = none) (m x : Operand) (t k : TypeId)
    (hop : o.op = Op.call { callee := Callee.builtin Builtin.delete, args := #[m, x], argTypes := #[t, k] })
    (e : TypeId) (KK : Keyed P k) (ht : P.underlying t = some (.map k e)) (R : Value -> Option (DataW H × List MemPlace)) (b n : Nat) (D : DataW H)
    (hm : a.eval m = .map (some b)) (hown : w.ownsMap P k R b n D) (key : Value) (kl : Lit) (hx : a.eval x = key) (hkey : keyOf P k key = some kl)
    (h : ∀ w', w'.ownsMap P k R b n (D.del kl) -> w.mapTurned w' b -> K (a.put o.dst (.tuple #[])) w') :
    if Region.wanted o (yielded ops a.tmps) = true then Oper.wp P o a w K Q else E := by
  have hw : Region.wanted o (yielded ops a.tmps) = true := by simp [Region.wanted, hgd]
  rw [if_pos hw]
  obtain ⟨w', hrun, r1, r2⟩ := hown.drop KK ht hkey o.type
  unfold Oper.wp
  simp [execOp, hop, resolve, invoke, builtin, hm, hx, hrun, Result.andThen]
  exact h w' r1 r2
def keysV (L : List Item) : List Value := L.map (fun x => Value.string x.key)
def early (L : List Item) (now : Int) : List Item := L.takeWhile (fun x => decide (x.at' <= now))
def late (L : List Item) (now : Int) : List Item := L.dropWhile (fun x => decide (x.at' <= now))
theorem strinfo : (prog.info? 9).map (fun i => (i.zero, i.size, i.bytes)) = some (some (.string ByteArray.empty), 1, 16) := by kernel_rfl
theorem late_stop {L : List Item} {now : Int} (h : nextB L = false \/ now < nextA L) : early L now = [] /\ late L now = L := by
  unfold early late
  cases L with
  | nil => exact ⟨rfl, rfl⟩
  | cons x L =>
    have : ¬ x.at' <= now := by
      rcases h with h | h
      · simp [nextB] at h
      · simp [nextA] at h; omega
    simp [this]
theorem late_go {x : Item} {L : List Item} {now : Int} (h : x.at' <= now) : early (x :: L) now = x :: early L now /\ late (x :: L) now = late L now := by
  unfold early late
  simp [h]
theorem due_row {w wr w1 : World} {b N : Nat} {v v' : Value} {l : List Item} {mb m : Nat} {D : DataW Nat} {L : List Item} (q : Qd w b N v l mb m D L) {sl : Value} {n : Nat} {xs : List Value} (h : wr.ownsRow w.heap.size 9 1 sl n xs)
    (hf : Fr (fun k => k = b \/ v'.ownBlock = some k) wr w1) (hv : v'.ownBlock = v.ownBlock) : w1.ownsRow w.heap.size 9 1 sl n xs := by
  refine own_fr h hf (fun g hg => ?_)
  have h1 := (h.lt g hg).1
  have h2 := lB q.hp.blk
  rintro (e | e)
  · omega
  · rw [hv] at e
    have := (q.hp.own.lt g e).2
    omega
theorem due_om {w1 w2 : World} {b N n g cap : Nat} {l : List Item} {mb m : Nat} {D : DataW Nat} {L : List Item} (q : Qd w1 b N (.slice (some ⟨g, 0, none⟩) (n + 1) cap) l mb m D L) (hf : Fr (fun k => k = b \/ k = g) w1 w2) : OM w2 mb m D := by
  obtain ⟨h1, h2⟩ := q.mb_ne
  exact q.om.frame hf (by rintro (e | e); exact h1 e; exact h2 g rfl e.symm)
theorem due_del {w1 w2 w3 w4 : World} {b N n g cap : Nat} {l : List Item} {mb m : Nat} {D : DataW Nat} {x : Item} {L : List Item} (q : Qd w1 b N (.slice (some ⟨g, 0, none⟩) (n + 1) cap) l mb m D (x :: L)) (hn : l.length = n + 1) (hy : l[0]? = some x)
    (hp : Hp w2 b 0 (.slice (some ⟨g, 0, none⟩) n cap) (popTop l n) (.map (some mb))) (hb : Below w2.heap.size w2 w3) (ho : OM w4 mb m (D.del (klit x.key))) (ht : w3.mapTurned w4 mb) :
    Qd w4 b N (.slice (some ⟨g, 0, none⟩) n cap) (popTop l n) mb m (D.del (klit x.key)) L /\ Fr (fun k => k = mb) w2 w4 := by
  obtain ⟨h1, h2⟩ := q.mb_ne
  have hperm := popTop_perm l n hn x hy
  have hk := List.pairwise_cons.1 q.ri.keys
  have hrem : remL (x :: L) x.key = L := by
    unfold remL
    rw [List.filter_cons, if_neg (by simp)]
    exact List.filter_eq_self.2 (fun y hy => by simpa using Ne.symm (hk.1 y hy))
  have hf : Fr (fun k => k = mb) w2 w4 := (Fr.of_below (S := fun k => k = mb) hb).trans (.of_grown (S := fun k => k = mb) ht.grown (by rintro j e; cases e; rfl)) (fun _ e => .inl e)
  have hag := q.ag.del (q.om.tidy strK) q.ri x.key
  rw [hrem] at hag
  refine ⟨⟨hp.frame hf (fun e => h1 e.symm) (fun j hj e => h2 j hj e), ho, q.mN, ?_, hag, q.ri.tail, popTop_heap l n hn q.ho, fun y hy => ?_, fun y hy => q.fit y (hperm.mem_iff.2 (List.mem_cons_of_mem _ hy))⟩, hf⟩
  · have := hperm.length_eq
    simp at this
    have := q.lN
    omega
  · rcases List.mem_cons.1 (hperm.mem_iff.1 (q.sub y (List.mem_cons_of_mem _ hy))) with e | h'
    · exact absurd (by rw [e]) (hk.1 y hy)
    · exact h'
theorem due_cell {w2 w4 : World} {mb m : Nat} {D D' : DataW Nat} {x : Item} {t : TypeId} (_ : OM w4 mb m D') (ht : ((w2.alloc (.cells #[.string x.key, .int .i64 x.at'] t)).drew).mapTurned w4 mb) (h : OM w2 mb m D) : w4.cell? ⟨w2.heap.size, 0, none⟩ = some (.string x.key) := by
  have hlt := h.lt
  have hg := ht.grown.block w2.heap.size (by show _ < (w2.heap.push _).size; simp) (by simp; omega)
  rw [World.cell?_of_block (a := ⟨w2.heap.size, 0, none⟩) hg]
  exact qB (i := 0) (w := (w2.alloc (.cells #[.string x.key, .int .i64 x.at'] t)).drew) (cs := #[.string x.key, .int .i64 x.at']) (t := t) (fr := (0, 0)) (by show (w2.heap.push _)[w2.heap.size]? = _; simp)
theorem due_end {w w1 w2 w4 : World} {b N n g cap : Nat} {v : Value} {l l1 : List Item} {mb m : Nat} {D D1 : DataW Nat} {L L1 L2 L3 : List Item} {x : Item} {o : Obj} {sl : Value} (q0 : Qd w b N v l mb m D1 L) (q : Qd w1 b N (.slice (some ⟨g, 0, none⟩) (n + 1) cap) l1 mb m D L2) (hn : l1.length = n + 1) (hy : l1[0]? = some x) (hL : L2 = x :: L3)
    (hp : Hp w2 b 0 (.slice (some ⟨g, 0, none⟩) n cap) (popTop l1 n) (.map (some mb))) (hf : Fr (fun k => k = b \/ k = g) w1 w2) (hr : w1.ownsRow w.heap.size 9 1 sl L1.length (keysV L1))
    (hv : (Value.slice (some ⟨g, 0, none⟩) (n + 1) cap).ownBlock = v.ownBlock) (ho : OM w4 mb m (D.del (klit x.key))) (ht : ((w2.alloc o).drew).mapTurned w4 mb) :
    Qd w4 b N (.slice (some ⟨g, 0, none⟩) n cap) (popTop l1 n) mb m (D.del (klit x.key)) L3 /\ Fr (fun k => k = b \/ v.ownBlock = some k \/ k = mb) w1 w4 /\ w4.ownsRow w.heap.size 9 1 sl L1.length (keysV L1) := by
  subst hL
  obtain ⟨h1, h2⟩ := due_del q hn hy hp ((Below.refl _ _).alloc (Nat.le_refl _) o).drew ho ht
  have hb := lB q0.hp.blk
  have hm := q0.om.lt
  have hv' : v.ownBlock = some g := hv.symm
  have hgl := (q0.hp.own.lt g hv').2
  have hf4 : Fr (fun k => k = b \/ v.ownBlock = some k \/ k = mb) w1 w4 := (hf.mono (T := fun k => k = b \/ v.ownBlock = some k \/ k = mb) (by rintro j _ (e | rfl); exact .inl e; exact .inr (.inl hv'))).trans h2 (fun _ e => .inl (.inr (.inr e)))
  refine ⟨h1, hf4, own_fr hr hf4 (fun j hj => ?_)⟩
  have hj1 := (hr.lt j hj).1
  rintro (e | e | e)
  · omega
  · rw [hv'] at e; cases e; omega
  · omega
theorem at_first (w : World) (o : Obj) : (w.alloc o).heap[w.heap.size]? = some o := by
  show (w.heap.push o)[w.heap.size]? = some o
  simp
theorem due_bound {w : World} {b N n : Nat} {v : Value} {l : List Item} {mb m : Nat} {D : DataW Nat} {L : List Item} (q : Qd w b N v l mb m D L) (hN : N <= 1000000) (h : n + 1 <= L.length) : n + 1 <= 1000000 := by
  have h1 := q.om.size_le
  have h2 := q.ag.size
  have h3 := q.mN
  omega
theorem due_base {S T : Nat -> Prop} {w w1 w4 : World} {o : Obj} (h : Fr S w1 w4) (k : Fr T w w1) : w.heap.size <= (w4.alloc o).heap.size := by
  have := h.size; have := k.size
  simp; omega
theorem due_after {w w4 w5 : World} {b N : Nat} {v v4 : Value} {l l4 : List Item} {mb m : Nat} {D D4 : DataW Nat} {L L4 : List Item} {o : Obj} {sl : Value} {n : Nat} {xs : List Value} (q0 : Qd w b N v l mb m D L) (q : Qd w4 b N v4 l4 mb m D4 L4) (hv : v4.ownBlock = v.ownBlock)
    (hr : w4.ownsRow w.heap.size 9 1 sl n xs) (hg : (w4.alloc o).grownBy w5 sl.ownBlock) : Qd w5 b N v4 l4 mb m D4 L4 /\ Fr (fun k => w.heap.size <= k) w4 w5 := by
  have hf : Fr (fun k => w.heap.size <= k) w4 w5 := (Fr.of_below (S := fun k => w.heap.size <= k) ((Below.refl _ _).alloc (Nat.le_refl _) o)).trans (.of_grown (S := fun k => w.heap.size <= k) hg (fun j e => (hr.lt j e).1)) (fun _ e => .inl e)
  have hb := lB q0.hp.blk
  have hm := q0.om.lt
  refine ⟨⟨q.hp.frame hf (by omega) (fun j hj => ?_), q.om.frame hf (by omega), q.mN, q.lN, q.ag, q.ri, q.ho, q.sub, q.fit⟩, hf⟩
  rw [hv] at hj
  have := (q0.hp.own.lt j hj).2
  omega
theorem due9 (b N : Nat) (v : Value) (l : List Item) (mb m : Nat) (D : DataW Nat) (L : List Item) (now : Int) (w : World) (hN : N <= 1000000) (h : Qd w b N v l mb m D L) :
    Calls prog 148 #[.pointer (some ⟨b, 0, none⟩), .int .i64 now] w fun e w' =>
      ∃ v' l' D' sl, e = .returned sl /\ w'.ownsRow w.heap.size 9 1 sl (early L now).length (keysV (early L now)) /\ Qd w' b N v' l' mb m D' (late L now) /\ v'.ownBlock = v.ownBlock /\ Fr (fun k => k = b \/ v.ownBlock = some k \/ k = mb) w w' := by
  have HQ := hid h
  obtain ⟨i0, hi, hz0, hz1, hz2⟩ := info_parts strinfo
  have I1 := hid hi; have I2 := hid hz0; have I3 := hid hz1; have I4 := hid hz2
  clear h hi hz0 hz1 hz2
  go_enter Tryz.func148, Tryz.ntmps148
  go_wp2_with fail
  go_loopg [5, 6, 7, 8] L.length (fun gk sl _ _ _ wr => ∃ v' l' D' L1 L2, L2.length = gk /\ early L now = L1 ++ early L2 now /\ late L now = late L2 now /\ L1.length + L2.length = L.length /\ wr.ownsRow w.heap.size 9 1 sl L1.length (keysV L1) /\ Qd wr b N v' l' mb m D' L2 /\ v'.ownBlock = v.ownBlock /\ Fr (fun k => k = b \/ v.ownBlock = some k \/ k = mb) w wr)
  case atStart => exact ⟨v, l, D, [], L, rfl, rfl, rfl, Nat.zero_add _, ⟨rfl, .inl ⟨rfl, rfl⟩⟩, HQ.out, rfl, Fr.refl _ _⟩
  case round =>
    obtain ⟨v', l', D', L1, L2, hgk, he, hl, hln, hrow, q, hv, hf⟩ := hrel
    have HLN := hid hln
    clear hln
    have HV := hid hv
    have HF := hid hf
    have HGK := hid hgk
    have HE := hid he
    have HLT := hid hl
    have ROW := hid hrow
    obtain ⟨a, ha⟩ : ∃ a, nextA L2 = a := ⟨_, rfl⟩
    obtain ⟨t, ht⟩ : ∃ t, nextB L2 = t := ⟨_, rfl⟩
    have nx := next17 b N v' l' mb m D' L2 wr hN q
    rw [ha, ht] at nx
    have NX := hid nx
    have HA := hid ha
    have HT := hid ht
    clear hv hf hgk he hl hrow q nx ha ht
    go_wp2_with fail
    with_reducible refine NX.out.mono ?_
    rintro e w1 ⟨rfl, v1, l1, q1, hv1, htop, hf1⟩
    have R1 := hid (due_row HQ.out ROW.out hf1 HV.out)
    have F1 := hid (HF.out.trans hf1 (by rintro j (e | e); exact .inl (.inl e); exact .inl (.inr (.inl (by rw [<- HV.out, e])))))
    have Q1 := hid q1
    have HV1 := hid (hv1.trans HV.out)
    have TOP := hid htop
    clear q1 hv1 htop hf1
    cases t with
    | false =>
      go_wp2_with fail
      go_ret
      obtain ⟨s1, s2⟩ := late_stop (L := L2) (now := now) (.inl HT.out)
      exact ⟨v1, l1, D', _, rfl, by rw [HE.out, s1, List.append_nil]; exact R1.out, by rw [HLT.out, s2]; exact Q1.out, HV1.out, F1.out⟩
    | true =>
      by_cases hgt : now < a
      · go_wp2_with fail
        go_ret
        obtain ⟨s1, s2⟩ := late_stop (L := L2) (now := now) (.inr (by rw [HA.out]; exact hgt))
        exact ⟨v1, l1, D', _, rfl, by rw [HE.out, s1, List.append_nil]; exact R1.out, by rw [HLT.out, s2]; exact Q1.out, HV1.out, F1.out⟩
      · obtain ⟨x, L3, hL⟩ : ∃ x L3, L2 = x :: L3 := by
          have := HT.out
          cases L2 with
          | nil => simp [nextB] at this
          | cons x L3 => exact ⟨x, L3, rfl⟩
        have hy : l1[0]? = some x := by rw [TOP.out rfl, hL]; rfl
        have hpos : 0 < l1.length := (List.getElem?_eq_some_iff.1 hy).1
        obtain ⟨n, hn⟩ : ∃ n, l1.length = n + 1 := ⟨l1.length - 1, by omega⟩
        obtain ⟨g, cap, hav⟩ : ∃ g cap, v1 = .slice (some ⟨g, 0, none⟩) (n + 1) cap := by
          rcases Q1.out.form with ⟨h, _⟩ | ⟨g, cap, h⟩
          · subst h; simp at hn
          · exact ⟨g, cap, by rw [h, hn]⟩
        subst hav
        have PO := hid (pop21 b 0 g n cap (.map (some mb)) l1 x w1 hn (by have := Q1.out.lN; omega) hy Q1.out.hp)
        have HK := hid (keyK (Q1.out.fit x (List.mem_of_getElem? hy)).2)
        have HY := hid hy
        have HL2 := hid hL
        have hcnt : L1.length + 1 <= 1000000 := due_bound HQ.out hN (by have := HLN.out; rw [hL] at this; simp at this; omega)
        clear hL hy hpos
        go_wp2_with fail
        with_reducible refine PO.out.mono ?_
        rintro e w2 ⟨rfl, hp2, hf2⟩
        have HP2 := hid hp2
        have HF2 := hid hf2
        have OM2 := hid (due_om Q1.out hf2)
        have c2 := qB (i := 2) hp2.blk
        have bl2 := lB hp2.blk
        simp only [List.getElem?_toArray, List.getElem?_cons_zero, List.getElem?_cons_succ] at c2
        clear hp2 hf2
        go_wp2_with fail
        go_region_law ((with_reducible apply step_delete (hgd := rfl) (t := 342) (k := 9) (e := 3) (KK := strK) (ht := mapT) (R := plainElem prog 3) (b := mb) (n := m) (D := D') (key := .string x.key) (kl := klit x.key)); (case hop => exact rfl); (case hm => exact rfl); (case hown => exact (OM2.out.alloc _).drew); (case hx => exact rfl); (case hkey => exact HK.out); (intro w4 ho4 ht4))
        all_goals
          have E4 := hid (due_end HQ.out Q1.out hn HY.out HL2.out HP2.out HF2.out R1.out HV1.out ho4 ht4)
          have t4 := due_cell (x := x) ho4 ht4 OM2.out
          clear ho4 ht4 c2 bl2
          go_wp2_with (at_builtin; refine Stop.out ?_)
          refine Stop.of ?_
          (with_reducible apply wpList_append_lies (hgd := rfl) (t := 43) (base := w.heap.size) (e := 9) (i := i0) (z := .string ByteArray.empty) (size := 1) (bytes := 16) (n := L1.length) (xs := keysV L1) (m := 1) (news := [.string x.key]) (ht := Tryz.underlying43) (hi := I1.out) (hz := I2.out) (hsize := I3.out) (hby := I4.out) (hzs := rfl) (ad := ⟨w4.heap.size, 0, none⟩) (c := 1) (H := w4.heap.size + 1))
          case ho => exact rfl
          case hs => exact rfl
          case hx => exact rfl
          case hsz => decide
          case hown => exact E4.out.2.2.alloc _
          case hl => exact rfl
          case hnews => exact World.news_of_block (t := 9) (fr := (0, 0)) (cs := #[.string x.key]) (at_first _ _)
          case h1 => intro u hu; simp at hu; subst hu; rfl
          case hm => decide
          case h63 => exact Nat.le_trans hcnt (by decide)
          case hbytes => omega
          case hbase => exact due_base E4.out.2.1 F1.out
          case hH => simp
          case h =>
            intro g' cap' w5 hown5 hgrow5 hat5 hlt5
            go_wp2_with fail
            go_roundg L3.length
            case rel =>
              obtain ⟨q4, f4, r4⟩ := E4.out
              obtain ⟨q5, f5⟩ := due_after HQ.out q4 HV1.out r4 hgrow5
              obtain ⟨s1, s2⟩ := late_go (x := x) (L := L3) (now := now) (by have := HA.out; rw [HL2.out] at this; simp only [nextA] at this; omega)
              refine ⟨_, _, _, L1 ++ [x], L3, rfl, by rw [HE.out, HL2.out, s1]; simp, by rw [HLT.out, HL2.out, s2], ?_, ?_, q5, HV1.out, (F1.out.trans f4 (fun _ e => .inl e)).trans f5 (fun _ e => .inr e)⟩
              · have := HLN.out; rw [HL2.out] at this; simp at this ⊢; omega
              · simpa [keysV] using hown5
            case measure => have := HGK.out; rw [HL2.out] at this; simp at this; omega
end Go.Proofs.YtbikkioipamlmaaGreatDoor.Q18
