/-
  The contract of the heap's push.
-/
import Derived.Test.YtmbjkkoennadkaaHeap2
import Derived.Test.YtmbjkkoennadkaaFrame
import Derived.Deep.RegionLaw
import Derived.Deep.AppendLies
import Derived.Deep.DeepCutAuto
namespace Go.Proofs.Ytmbjkkoennadkaa
open Go.RowKit
def ltAt (l : List Item) (i k : Nat) : Bool :=
  match l[i]?, l[k]? with
  | some x, some y => ltI x y
  | _, _ => false
def siftUp (l : List Item) (i : Nat) : List Item :=
  if 0 < i ∧ ltAt l i ((i - 1) / 2) = true then siftUp (swapL l i ((i - 1) / 2)) ((i - 1) / 2) else l
termination_by i
decreasing_by omega
def pushL (l : List Item) (x : Item) : List Item := siftUp (l ++ [x]) l.length
theorem siftUp_length (l : List Item) (i : Nat) : (siftUp l i).length = l.length := by
  induction i using Nat.strongRecOn generalizing l with
  | _ i ih =>
    rw [siftUp]
    split
    · rw [ih _ (by omega), swapL_length]
    · rfl
/-- the heap inside a queue's block b: the list's slice, the order, and the map -/
structure Hp (w : World) (b base : Nat) (v : Value) (l : List Item) (mp : Value) : Prop where
  blk : w.heap[b]? = some (.cells #[v, .func (.func 18) #[] #[], mp] 54 (0, 0))
  own : w.ownsRow base 57 2 v l.length (itemCells l)
theorem Hp.ne {w : World} {b base : Nat} {v : Value} {l : List Item} {mp : Value} (h : Hp w b base v l mp) : ∀ g, v.ownBlock = some g → g ≠ b := by
  intro g hg e
  subst e
  rcases h.own.2 with ⟨rfl, _⟩ | ⟨g', cap, cur, rfl, _, hh, _⟩
  · simp [Value.ownBlock] at hg
  · simp [Value.ownBlock] at hg
    subst hg
    have := h.blk
    rw [hh] at this
    simp at this
theorem Hp.below {w w' : World} {b base : Nat} {v mp : Value} {l : List Item} (h : Hp w b base v l mp) (hb : Below w.heap.size w w') : Hp w' b base v l mp :=
  ⟨by rw [hb.block b (blk_lt h.blk)]; exact h.blk, own_same h.own (fun g hg => hb.block g (h.own.lt g hg).2)⟩
theorem Hp.swapped {w w' : World} {b base g cap n : Nat} {mp : Value} {l l' : List Item} (h : Hp w b base (.slice (some ⟨g, 0, none⟩) n cap) l mp) (hg : w.grownBy w' (some g))
    (hown : w'.ownsRow base 57 2 (.slice (some ⟨g, 0, none⟩) n cap) l.length (itemCells l')) (hl : l'.length = l.length) : Hp w' b base (.slice (some ⟨g, 0, none⟩) n cap) l' mp :=
  ⟨by rw [hg.block b (blk_lt h.blk) (fun e => h.ne g rfl (by simpa using e.symm))]; exact h.blk, by rw [hl]; exact hown⟩
theorem swapHp {w : World} {b base g cap n : Nat} {mp : Value} {l : List Item} (h : Hp w b base (.slice (some ⟨g, 0, none⟩) n cap) l mp) (hn : l.length = n) (i k : Nat) (h64 : n ≤ 9223372036854775807) (hi : i < l.length) (hk : k < l.length) :
    Calls Try.prog 25 #[.slice (some ⟨g, 0, none⟩) n cap, .int .i64 (i : Int), .int .i64 (k : Int)] w
      fun e w' => NoRes e ∧ Hp w' b base (.slice (some ⟨g, 0, none⟩) n cap) (swapL l i k) mp ∧ w.grownBy w' (some g) := by
  subst hn
  refine (swap25 g cap base l i k w h64 hi hk h.own).mono ?_
  rintro e w' ⟨h1, h2, h3⟩
  exact ⟨h1, h.swapped h3 h2 (swapL_length _ _ _), h3⟩
theorem iteminfo : (Try.prog.info? 57).map (fun i => (i.zero, i.size, i.bytes)) = some (some (.agg #[.string ByteArray.empty, .int .i64 0]), 2, 24) := by kernel_rfl
theorem at_second (w : World) (o o' : Obj) : ((w.alloc o).alloc o').drew.heap[w.heap.size + 1]? = some o' := by
  show ((w.heap.push o).push o')[w.heap.size + 1]? = some o'
  rw [Array.getElem?_push, Array.size_push, if_pos rfl]
theorem two_size (w : World) (o o' : Obj) : ((w.alloc o).alloc o').drew.heap.size = w.heap.size + 2 := by
  show ((w.heap.push o).push o').size = _
  simp
theorem size_two (w : World) (o o' : Obj) : w.heap.size ≤ ((w.alloc o).alloc o').drew.heap.size := by
  rw [two_size]; omega
theorem blk_grown {w w' : World} {o o' : Obj} {b base : Nat} {v mp : Value} {l : List Item} (h : Hp w b base v l mp) (hg : ((w.alloc o).alloc o').drew.grownBy w' v.ownBlock) : w'.heap[b]? = some (.cells #[v, .func (.func 18) #[] #[], mp] 54 (0, 0)) := by
  have hb := blk_lt h.blk
  rw [hg.block b (by rw [two_size]; omega) (fun e => h.ne b e.symm rfl)]
  show ((w.heap.push o).push o')[b]? = _
  rw [Array.getElem?_push, Array.getElem?_push, Array.size_push, if_neg (by omega), if_neg (by omega), h.blk]
theorem one2 (k : ByteArray) (n : Int) : ∀ u ∈ [Value.string k, .int .i64 n], u.oneCell' = true := by
  intro u hu
  simp at hu
  rcases hu with rfl | rfl <;> rfl
theorem le63 {n : Nat} (h : n + 1 ≤ 1000000) : n + 1 ≤ maxLen := Nat.le_trans h (by decide)
theorem push_first {w w2 : World} {b base g cap : Nat} {v mp : Value} {l : List Item} {x : Item} {o o' : Obj} (h : Hp w b base v l mp)
    (hown : w2.ownsRow base 57 2 (.slice (some ⟨g, 0, none⟩) (l.length + 1) cap) (l.length + 1) (itemCells l ++ [.string x.key, .int .i64 x.at']))
    (hgrow : ((w.alloc o).alloc o').drew.grownBy w2 v.ownBlock) (hat : v.ownBlock = some g ∨ g = w.heap.size + 2) :
    ∃ g' cap', w.heap.size ≤ (w2.setCell ⟨b, 0, none⟩ (.slice (some ⟨g, 0, none⟩) (l.length + 1) cap)).heap.size ∧ (v.ownBlock = some g' ∨ w.heap.size ≤ g') ∧
      Hp (w2.setCell ⟨b, 0, none⟩ (.slice (some ⟨g, 0, none⟩) (l.length + 1) cap)) b base (.slice (some ⟨g', 0, none⟩) (l.length + 1) cap') (l ++ [x]) mp ∧
      Fr (fun k => k = b ∨ v.ownBlock = some k) w (w2.setCell ⟨b, 0, none⟩ (.slice (some ⟨g, 0, none⟩) (l.length + 1) cap)) := by
  have k2 := blk_grown h hgrow
  have hgb : g ≠ b := by
    rcases hat with e | e
    · exact h.ne g e
    · have := blk_lt h.blk; omega
  have hs2 := hgrow.size
  rw [two_size] at hs2
  have hsz : (w2.setCell ⟨b, 0, none⟩ (.slice (some ⟨g, 0, none⟩) (l.length + 1) cap)).heap.size = w2.heap.size := by simp [World.setCell]
  refine ⟨g, cap, by omega, hat.imp id (by omega), ⟨?_, ?_⟩, ⟨hgrow.os, hgrow.tape, hgrow.output, by omega, ?_⟩⟩
  · rw [blk_set k2]; rfl
  · rw [itemCells_append]
    simp only [List.length_append, List.length_cons, List.length_nil, Nat.zero_add]
    refine own_same (w := w2) hown (fun j hj => ?_)
    simp [Value.ownBlock] at hj
    subst hj
    exact Below.heap_setCell _ _ _ _ hgb
  · intro j hj hne
    simp only [not_or] at hne
    rw [Below.heap_setCell _ _ _ _ hne.1, hgrow.block j (by rw [two_size]; omega) (fun e => hne.2 e.symm)]
    show ((w.heap.push o).push o')[j]? = _
    rw [Array.getElem?_push, Array.getElem?_push, Array.size_push, if_neg (by omega), if_neg (by omega)]
theorem push_end {w wr : World} {b base g cap : Nat} {v mp : Value} {l cl : List Item} {x : Item} {n : Nat} (hp : Hp wr b base (.slice (some ⟨g, 0, none⟩) n cap) cl mp) (hf : Fr (fun k => k = b ∨ v.ownBlock = some k ∨ k = g) w wr)
    (hg : v.ownBlock = some g ∨ w.heap.size ≤ g) (he : pushL l x = cl) :
    NoRes (.returned (.tuple #[])) ∧ ∃ v', Hp wr b base v' (pushL l x) mp ∧ Fr (fun k => k = b ∨ v.ownBlock = some k) w wr ∧ ∀ g, v'.ownBlock = some g → v.ownBlock = some g ∨ w.heap.size ≤ g := by
  refine ⟨rfl, _, he ▸ hp, hf.mono (fun j hj hs => ?_), fun g' h => ?_⟩
  · rcases hs with h | h | h
    · exact .inl h
    · exact .inr h
    · subst h; rcases hg with h | h
      · exact .inr h
      · omega
  · simp [Value.ownBlock] at h; subst h; exact hg
set_option maxRecDepth 100000 in
set_option maxHeartbeats 4000000 in
theorem push19 (b base : Nat) (v mp : Value) (l : List Item) (x : Item) (w : World) (hl : l.length + 1 ≤ 1000000) (h : Hp w b base v l mp) (hbase : base ≤ w.heap.size) :
    Calls Try.prog 19 #[.pointer (some ⟨b, 0, none⟩), .agg #[.string x.key, .int .i64 x.at']] w fun e w' =>
      NoRes e ∧ ∃ v', Hp w' b base v' (pushL l x) mp ∧ Fr (fun k => k = b ∨ v.ownBlock = some k) w w' ∧ ∀ g, v'.ownBlock = some g → v.ownBlock = some g ∨ w.heap.size ≤ g := by
  obtain ⟨i0, hi, hz0, hz1, hz2⟩ := info_parts iteminfo
  have I1 := Lib.hid hi; have I2 := Lib.hid hz0; have I3 := Lib.hid hz1; have I4 := Lib.hid hz2
  have c0 := blk_cell (i := 0) h.blk
  have c1 := blk_cell (i := 1) h.blk
  have f0 := blk_free (i := 0) h.blk
  have blt := blk_lt h.blk
  simp only [List.getElem?_toArray, List.getElem?_cons_zero, List.getElem?_cons_succ] at c0 c1
  have H := Lib.hid h
  clear h hi hz0 hz1 hz2
  go_enter Try.func19, Try.ntmps19
  go_upto_region 1 with fail
  go_cut [] (fun wx => ∃ g cap, w.heap.size ≤ wx.heap.size ∧ (v.ownBlock = some g ∨ w.heap.size ≤ g) ∧ Hp wx b base (.slice (some ⟨g, 0, none⟩) (l.length + 1) cap) (l ++ [x]) mp ∧ Fr (fun k => k = b ∨ v.ownBlock = some k) w wx)
  case first =>
    go_region_law ((with_reducible apply step_append_lies (hgd := rfl) (t := 49) (base := base) (e := 57) (i := i0) (z := .agg #[.string ByteArray.empty, .int .i64 0]) (size := 2) (bytes := 24) (v := v) (n := l.length) (xs := itemCells l) (m := 1) (news := [.string x.key, .int .i64 x.at']) (ht := Try.underlying49) (hi := I1.out) (hz := I2.out) (hsize := I3.out) (hby := I4.out) (hzs := rfl) (ad := ⟨w.heap.size + 1, 0, none⟩) (c := 1) (H := w.heap.size + 2)); (case ho => exact rfl); (case hs => exact rfl); (case hx => exact rfl); (case hsz => decide); (case hown => exact ((H.out.own.alloc _).alloc _).drew); (case hl => exact rfl); (case hnews => exact World.news_of_block (B := w.heap.size + 1) (t := 57) (fr := (0, 0)) (cs := #[.string x.key, .int .i64 x.at']) (at_second _ _ _)); (case h1 => exact one2 _ _); (case hm => decide); (case h63 => exact le63 hl); (case hbytes => omega); (case hbase => exact Nat.le_trans hbase (size_two _ _ _)); (case hH => exact two_size _ _ _); (intro g cap w2 hown hgrow hat hlt); have k2 := Lib.hid (blk_grown H.out hgrow); have k0 := blk_cell (i := 0) k2.out; have kf := blk_free (i := 0) k2.out)
    all_goals
      go_wp2_with fail
      go_meet
      exact push_first H.out hown hgrow hat
  case rest =>
    obtain ⟨g, cap, hsz, hg, hp, hf⟩ := hcut
    have c0 := blk_cell (i := 0) hp.blk
    simp only [List.getElem?_toArray, List.getElem?_cons_zero] at c0
    have P0 := Lib.hid hp
    have F0 := Lib.hid hf
    have HG := Lib.hid hg
    obtain ⟨T, hT⟩ : ∃ T, siftUp (l ++ [x]) l.length = T := ⟨_, rfl⟩
    have HT := Lib.hid hT
    have HT' := Lib.hid (show pushL l x = T from hT)
    clear hp hf hg hT
    go_wp2_with fail
    go_loopw [4, 5] (fun i _ wr => ∃ (k : Nat) (cl : List Item), k < cl.length ∧ cl.length = l.length + 1 ∧ i = .int .i64 k ∧ siftUp cl k = T ∧ Hp wr b base (.slice (some ⟨g, 0, none⟩) (l.length + 1) cap) cl mp ∧ Fr (fun k => k = b ∨ v.ownBlock = some k ∨ k = g) w wr) (fun i _ _ => (intOf i).toNat)
    case atStart => exact ⟨l.length, l ++ [x], by simp, by simp, rfl, HT.out, P0.out, F0.out.mono (fun _ _ h => h.imp id .inl)⟩
    case round =>
      obtain ⟨k, cl, hk, hcl, rfl, hs, hp, hf⟩ := hrel
      have hbl := blk_lt hp.blk
      have b0 := blk_cell (i := 0) hp.blk
      have b1 := blk_cell (i := 1) hp.blk
      simp only [List.getElem?_toArray, List.getElem?_cons_zero, List.getElem?_cons_succ] at b0 b1
      have own := hp.own
      rw [hcl] at own
      have hgl := (own.lt g rfl).2
      have HS := Lib.hid hs
      have HP := Lib.hid hp
      have HF := Lib.hid hf
      have OWN := Lib.hid own
      by_cases h0 : 0 < k
      · obtain ⟨u, hu⟩ : ∃ u, (k - 1) / 2 = u := ⟨_, rfl⟩
        have huk : u < k := by omega
        have hii : ((k : Int) - 1) / 2 = (u : Int) := by omega
        obtain ⟨y, hy⟩ : ∃ y, cl[k]? = some y := ⟨_, List.getElem?_eq_getElem hk⟩
        obtain ⟨z, hz⟩ : ∃ z, cl[u]? = some z := ⟨_, List.getElem?_eq_getElem (by omega)⟩
        obtain ⟨y0, y1⟩ := itemCells_at cl k y hy
        obtain ⟨z0, z1⟩ := itemCells_at cl u z hz
        have d0 := own.cellAt (k * 2) (by omega)
        have d1 := own.cellAt (k * 2 + 1) (by omega)
        have d2 := own.cellAt (u * 2) (by omega)
        have d3 := own.cellAt (u * 2 + 1) (by omega)
        rw [y0] at d0; rw [y1] at d1; rw [z0] at d2; rw [z1] at d3
        have hlt : ltAt cl k u = ltI y z := by unfold ltAt; rw [hy, hz]
        have HL := Lib.hid hlt
        have SO := Lib.hid (fun W => sooner18 y.key z.key y.at' z.at' W)
        have HU := Lib.hid hu
        have e1 : (k : Int) < l.length + 1 := by omega
        have e2 : (u : Int) < l.length + 1 := by omega
        clear hp hs hf own hy hz y0 y1 z0 z1 hlt hu
        go_wp2_with fail
        refine wp_region_ext wr.heap.size (by kernel_rfl) (by kernel_rfl) ?_
        have hx := fun (x : Ext wr.heap.size wr) b o h => Ext.cell x b o h
        repeat (go_big_quiet_step (first | (go_at_call 18; with_reducible exact Calls.ext (Nat.le_refl _) (SO.out _)) | (with_reducible exact rfl)))
        refine wpQuiet_nil ?_
        rintro w1 ⟨⟨_, hb⟩, rfl⟩
        clear hx b0 b1 d0 d1 d2 d3
        have HP1 := Lib.hid (HP.out.below hb)
        have HF1 := Lib.hid (HF.out.trans (.of_below (S := fun _ => False) hb) (fun _ f => f.elim))
        have b0 := blk_cell (i := 0) HP1.out.blk
        simp only [List.getElem?_toArray, List.getElem?_cons_zero] at b0
        clear hb
        by_cases hlt : ltI y z = true
        · rw [hlt]
          have hlt' := HL.out.trans hlt
          clear hlt
          have SW' := Lib.hid (swapHp HP1.out hcl k u (by omega) hk (by omega))
          go_wp2_with fail
          with_reducible refine SW'.out.mono ?_
          rintro e w2 ⟨rfl, hp2, hgr⟩
          have HP2 := Lib.hid hp2
          have HF2 := Lib.hid (HF1.out.trans (.of_grown (S := fun k => k = b ∨ v.ownBlock = some k ∨ k = g) hgr (by rintro k' h; cases h; exact .inr (.inr rfl))) (fun _ f => .inl f))
          clear hp2 hgr b0
          go_wp2_with fail
          go_roundw
          case rel =>
            refine ⟨u, swapL cl k u, by rw [swapL_length]; omega, by rw [swapL_length]; exact hcl, by go_num, ?_, HP2.out, HF2.out⟩
            rw [← HS.out, siftUp.eq_1 cl k, HU.out, hlt', if_pos ⟨h0, rfl⟩]
          case measure => simp [intOf]; omega
        · simp only [Bool.not_eq_true] at hlt
          rw [hlt]
          have hlt' := HL.out.trans hlt
          clear hlt
          go_wp2_with fail
          refine bodyPost_ret (results_none rfl _ _ _) rfl ?_
          exact push_end HP1.out HF1.out HG.out (by rw [HT'.out, ← HS.out, siftUp, HU.out, hlt', if_neg (by simp)])
      · obtain rfl : k = 0 := by omega
        go_wp2_with fail
        go_end0
        exact push_end HP.out HF.out HG.out (by rw [HT'.out, ← HS.out, siftUp, if_neg (by omega)])
end Go.Proofs.Ytmbjkkoennadkaa
