/-
  The contract of Due.
-/
import Derived.Test.YtmbjkkoennadkaaNext
namespace Go.Proofs.Ytmbjkkoennadkaa
open Go.RowKit Go.Maps
/-- 'delete(m, k)' as one step of a region that draws -/
theorem step_delete {H : Type} {P : Program} {w : World} {ops : Array Oper} {o : Oper} {a : Act} {K : Act → World → Prop} {Q : Exit → Act → World → Prop} {E : Prop} (hgd : o.guard = none) (m x : Operand) (t k : TypeId)
    (hop : o.op = Op.call { callee := Callee.builtin Builtin.delete, args := #[m, x], argTypes := #[t, k] })
    (e : TypeId) (KK : Keyed P k) (ht : P.underlying t = some (.map k e)) (R : Value → Option (DataW H × List MemPlace)) (b n : Nat) (D : DataW H)
    (hm : a.eval m = .map (some b)) (hown : w.ownsMap P k R b n D) (key : Value) (kl : Lit) (hx : a.eval x = key) (hkey : keyOf P k key = some kl)
    (h : ∀ w', w'.ownsMap P k R b n (D.del kl) → w.mapTurned w' b → K (a.put o.dst (.tuple #[])) w') :
    if Region.wanted o (yielded ops a.tmps) = true then Oper.wp P o a w K Q else E := by
  have hw : Region.wanted o (yielded ops a.tmps) = true := by simp [Region.wanted, hgd]
  rw [if_pos hw]
  obtain ⟨w', hrun, r1, r2⟩ := hown.drop KK ht hkey o.type
  unfold Oper.wp
  simp [execOp, hop, resolve, invoke, builtin, hm, hx, hrun, Result.andThen]
  exact h w' r1 r2
def keysV (L : List Item) : List Value := L.map (fun x => Value.string x.key)
def early (L : List Item) (now : Int) : List Item := L.takeWhile (fun x => decide (x.at' ≤ now))
def late (L : List Item) (now : Int) : List Item := L.dropWhile (fun x => decide (x.at' ≤ now))
theorem strinfo : (Try.prog.info? 9).map (fun i => (i.zero, i.size, i.bytes)) = some (some (.string ByteArray.empty), 1, 16) := by kernel_rfl
theorem late_stop {L : List Item} {now : Int} (h : nextB L = false ∨ now < nextA L) : early L now = [] ∧ late L now = L := by
  unfold early late
  cases L with
  | nil => exact ⟨rfl, rfl⟩
  | cons x L =>
    have : ¬ x.at' ≤ now := by
      rcases h with h | h
      · simp [nextB] at h
      · simp [nextA] at h; omega
    simp [this]
theorem late_go {x : Item} {L : List Item} {now : Int} (h : x.at' ≤ now) : early (x :: L) now = x :: early L now ∧ late (x :: L) now = late L now := by
  unfold early late
  simp [h]
theorem due_row {w wr w1 : World} {b N : Nat} {v v' : Value} {l : List Item} {mb m : Nat} {D : DataW Nat} {L : List Item} (q : Qd w b N v l mb m D L) {sl : Value} {n : Nat} {xs : List Value} (h : wr.ownsRow w.heap.size 9 1 sl n xs)
    (hf : Fr (fun k => k = b ∨ v'.ownBlock = some k) wr w1) (hv : v'.ownBlock = v.ownBlock) : w1.ownsRow w.heap.size 9 1 sl n xs := by
  refine own_fr h hf (fun g hg => ?_)
  have h1 := (h.lt g hg).1
  have h2 := blk_lt q.hp.blk
  rintro (e | e)
  · omega
  · rw [hv] at e
    have := (q.hp.own.lt g e).2
    omega
theorem due_om {w1 w2 : World} {b N n g cap : Nat} {l : List Item} {mb m : Nat} {D : DataW Nat} {L : List Item} (q : Qd w1 b N (.slice (some ⟨g, 0, none⟩) (n + 1) cap) l mb m D L) (hf : Fr (fun k => k = b ∨ k = g) w1 w2) : OM w2 mb m D := by
  obtain ⟨h1, h2⟩ := q.mb_ne
  exact q.om.frame hf (by rintro (e | e); exact h1 e; exact h2 g rfl e.symm)
theorem due_del {w1 w2 w3 w4 : World} {b N n g cap : Nat} {l : List Item} {mb m : Nat} {D : DataW Nat} {x : Item} {L : List Item} (q : Qd w1 b N (.slice (some ⟨g, 0, none⟩) (n + 1) cap) l mb m D (x :: L)) (hn : l.length = n + 1) (hy : l[0]? = some x)
    (hp : Hp w2 b 0 (.slice (some ⟨g, 0, none⟩) n cap) (popTop l n) (.map (some mb))) (hb : Below w2.heap.size w2 w3) (ho : OM w4 mb m (D.del (klit x.key))) (ht : w3.mapTurned w4 mb) :
    Qd w4 b N (.slice (some ⟨g, 0, none⟩) n cap) (popTop l n) mb m (D.del (klit x.key)) L ∧ Fr (fun k => k = mb) w2 w4 := by
  obtain ⟨h1, h2⟩ := q.mb_ne
  have hperm := popTop_perm l n hn x hy
  have hk := List.pairwise_cons.1 q.ri.keys
  have hrem : remL (x :: L) x.key = L := by
    unfold remL
    rw [List.filter_cons, if_neg (by simp)]
    exact List.filter_eq_self.2 (fun y hy => by simpa using Ne.symm (hk.1 y hy))
  have hf : Fr (fun k => k = mb) w2 w4 := (Fr.of_below (S := fun k => k = mb) hb).trans (.of_grown (S := fun k => k = mb) ht.grown (by rintro j e; cases e; rfl)) (fun _ e => .inl e)
  have hag := q.ag.del (q.om.tidy strK) q.ri x.key
  rw [hrem] at hag
  refine ⟨⟨hp.frame hf (fun e => h1 e.symm) (fun j hj e => h2 j hj e), ho, q.mN, ?_, hag, q.ri.tail, popTop_heap l n hn q.ho, fun y hy => ?_, fun y hy => q.fit y (hperm.mem_iff.2 (List.mem_cons_of_mem _ hy))⟩, hf⟩
  · have := hperm.length_eq
    simp at this
    have := q.lN
    omega
  · rcases List.mem_cons.1 (hperm.mem_iff.1 (q.sub y (List.mem_cons_of_mem _ hy))) with e | h'
    · exact absurd (by rw [e]) (hk.1 y hy)
    · exact h'
theorem due_cell {w2 w4 : World} {mb m : Nat} {D D' : DataW Nat} {x : Item} {t : TypeId} (_ : OM w4 mb m D') (ht : ((w2.alloc (.cells #[.string x.key, .int .i64 x.at'] t)).drew).mapTurned w4 mb) (h : OM w2 mb m D) : w4.cell? ⟨w2.heap.size, 0, none⟩ = some (.string x.key) := by
  have hlt := h.lt
  have hg := ht.grown.block w2.heap.size (by show _ < (w2.heap.push _).size; simp) (by simp; omega)
  rw [World.cell?_of_block (a := ⟨w2.heap.size, 0, none⟩) hg]
  exact blk_cell (i := 0) (w := (w2.alloc (.cells #[.string x.key, .int .i64 x.at'] t)).drew) (cs := #[.string x.key, .int .i64 x.at']) (t := t) (fr := (0, 0)) (by show (w2.heap.push _)[w2.heap.size]? = _; simp)
theorem due_end {w w1 w2 w4 : World} {b N n g cap : Nat} {v : Value} {l l1 : List Item} {mb m : Nat} {D D1 : DataW Nat} {L L1 L2 L3 : List Item} {x : Item} {o : Obj} {sl : Value} (q0 : Qd w b N v l mb m D1 L) (q : Qd w1 b N (.slice (some ⟨g, 0, none⟩) (n + 1) cap) l1 mb m D L2) (hn : l1.length = n + 1) (hy : l1[0]? = some x) (hL : L2 = x :: L3)
    (hp : Hp w2 b 0 (.slice (some ⟨g, 0, none⟩) n cap) (popTop l1 n) (.map (some mb))) (hf : Fr (fun k => k = b ∨ k = g) w1 w2) (hr : w1.ownsRow w.heap.size 9 1 sl L1.length (keysV L1))
    (hv : (Value.slice (some ⟨g, 0, none⟩) (n + 1) cap).ownBlock = v.ownBlock) (ho : OM w4 mb m (D.del (klit x.key))) (ht : ((w2.alloc o).drew).mapTurned w4 mb) :
    Qd w4 b N (.slice (some ⟨g, 0, none⟩) n cap) (popTop l1 n) mb m (D.del (klit x.key)) L3 ∧ Fr (fun k => k = b ∨ v.ownBlock = some k ∨ k = mb) w1 w4 ∧ w4.ownsRow w.heap.size 9 1 sl L1.length (keysV L1) := by
  subst hL
  obtain ⟨h1, h2⟩ := due_del q hn hy hp ((Below.refl _ _).alloc (Nat.le_refl _) o).drew ho ht
  have hb := blk_lt q0.hp.blk
  have hm := q0.om.lt
  have hv' : v.ownBlock = some g := hv.symm
  have hgl := (q0.hp.own.lt g hv').2
  have hf4 : Fr (fun k => k = b ∨ v.ownBlock = some k ∨ k = mb) w1 w4 := (hf.mono (T := fun k => k = b ∨ v.ownBlock = some k ∨ k = mb) (by rintro j _ (e | rfl); exact .inl e; exact .inr (.inl hv'))).trans h2 (fun _ e => .inl (.inr (.inr e)))
  refine ⟨h1, hf4, own_fr hr hf4 (fun j hj => ?_)⟩
  have hj1 := (hr.lt j hj).1
  rintro (e | e | e)
  · omega
  · rw [hv'] at e; cases e; omega
  · omega
theorem at_first (w : World) (o : Obj) : (w.alloc o).heap[w.heap.size]? = some o := by
  show (w.heap.push o)[w.heap.size]? = some o
  simp
theorem due_bound {w : World} {b N n : Nat} {v : Value} {l : List Item} {mb m : Nat} {D : DataW Nat} {L : List Item} (q : Qd w b N v l mb m D L) (hN : N ≤ 1000000) (h : n + 1 ≤ L.length) : n + 1 ≤ 1000000 := by
  have h1 := q.om.size_le
  have h2 := q.ag.size
  have h3 := q.mN
  omega
theorem due_base {S T : Nat → Prop} {w w1 w4 : World} {o : Obj} (h : Fr S w1 w4) (k : Fr T w w1) : w.heap.size ≤ (w4.alloc o).heap.size := by
  have := h.size; have := k.size
  simp; omega
theorem due_after {w w4 w5 : World} {b N : Nat} {v v4 : Value} {l l4 : List Item} {mb m : Nat} {D D4 : DataW Nat} {L L4 : List Item} {o : Obj} {sl : Value} {n : Nat} {xs : List Value} (q0 : Qd w b N v l mb m D L) (q : Qd w4 b N v4 l4 mb m D4 L4) (hv : v4.ownBlock = v.ownBlock)
    (hr : w4.ownsRow w.heap.size 9 1 sl n xs) (hg : (w4.alloc o).grownBy w5 sl.ownBlock) : Qd w5 b N v4 l4 mb m D4 L4 ∧ Fr (fun k => w.heap.size ≤ k) w4 w5 := by
  have hf : Fr (fun k => w.heap.size ≤ k) w4 w5 := (Fr.of_below (S := fun k => w.heap.size ≤ k) ((Below.refl _ _).alloc (Nat.le_refl _) o)).trans (.of_grown (S := fun k => w.heap.size ≤ k) hg (fun j e => (hr.lt j e).1)) (fun _ e => .inl e)
  have hb := blk_lt q0.hp.blk
  have hm := q0.om.lt
  refine ⟨⟨q.hp.frame hf (by omega) (fun j hj => ?_), q.om.frame hf (by omega), q.mN, q.lN, q.ag, q.ri, q.ho, q.sub, q.fit⟩, hf⟩
  rw [hv] at hj
  have := (q0.hp.own.lt j hj).2
  omega
set_option maxRecDepth 100000 in
set_option maxHeartbeats 4000000 in
theorem due9 (b N : Nat) (v : Value) (l : List Item) (mb m : Nat) (D : DataW Nat) (L : List Item) (now : Int) (w : World) (hN : N ≤ 1000000) (h : Qd w b N v l mb m D L) :
    Calls Try.prog 9 #[.pointer (some ⟨b, 0, none⟩), .int .i64 now] w fun e w' =>
      ∃ v' l' D' sl, e = .returned sl ∧ w'.ownsRow w.heap.size 9 1 sl (early L now).length (keysV (early L now)) ∧ Qd w' b N v' l' mb m D' (late L now) ∧ v'.ownBlock = v.ownBlock ∧ Fr (fun k => k = b ∨ v.ownBlock = some k ∨ k = mb) w w' := by
  have HQ := Lib.hid h
  obtain ⟨i0, hi, hz0, hz1, hz2⟩ := info_parts strinfo
  have I1 := Lib.hid hi; have I2 := Lib.hid hz0; have I3 := Lib.hid hz1; have I4 := Lib.hid hz2
  clear h hi hz0 hz1 hz2
  go_enter Try.func9, Try.ntmps9
  go_wp2_with fail
  go_loopg [5, 6, 7, 8] L.length (fun gk sl _ _ _ wr => ∃ v' l' D' L1 L2, L2.length = gk ∧ early L now = L1 ++ early L2 now ∧ late L now = late L2 now ∧ L1.length + L2.length = L.length ∧ wr.ownsRow w.heap.size 9 1 sl L1.length (keysV L1) ∧ Qd wr b N v' l' mb m D' L2 ∧ v'.ownBlock = v.ownBlock ∧ Fr (fun k => k = b ∨ v.ownBlock = some k ∨ k = mb) w wr)
  case atStart => exact ⟨v, l, D, [], L, rfl, rfl, rfl, Nat.zero_add _, ⟨rfl, .inl ⟨rfl, rfl⟩⟩, HQ.out, rfl, Fr.refl _ _⟩
  case round =>
    obtain ⟨v', l', D', L1, L2, hgk, he, hl, hln, hrow, q, hv, hf⟩ := hrel
    have HLN := Lib.hid hln
    clear hln
    have HV := Lib.hid hv
    have HF := Lib.hid hf
    have HGK := Lib.hid hgk
    have HE := Lib.hid he
    have HLT := Lib.hid hl
    have ROW := Lib.hid hrow
    obtain ⟨a, ha⟩ : ∃ a, nextA L2 = a := ⟨_, rfl⟩
    obtain ⟨t, ht⟩ : ∃ t, nextB L2 = t := ⟨_, rfl⟩
    have nx := next17 b N v' l' mb m D' L2 wr hN q
    rw [ha, ht] at nx
    have NX := Lib.hid nx
    have HA := Lib.hid ha
    have HT := Lib.hid ht
    clear hv hf hgk he hl hrow q nx ha ht
    go_wp2_with fail
    with_reducible refine NX.out.mono ?_
    rintro e w1 ⟨rfl, v1, l1, q1, hv1, htop, hf1⟩
    have R1 := Lib.hid (due_row HQ.out ROW.out hf1 HV.out)
    have F1 := Lib.hid (HF.out.trans hf1 (by rintro j (e | e); exact .inl (.inl e); exact .inl (.inr (.inl (by rw [← HV.out, e])))))
    have Q1 := Lib.hid q1
    have HV1 := Lib.hid (hv1.trans HV.out)
    have TOP := Lib.hid htop
    clear q1 hv1 htop hf1
    cases t with
    | false =>
      go_wp2_with fail
      go_ret
      obtain ⟨s1, s2⟩ := late_stop (L := L2) (now := now) (.inl HT.out)
      exact ⟨v1, l1, D', _, rfl, by rw [HE.out, s1, List.append_nil]; exact R1.out, by rw [HLT.out, s2]; exact Q1.out, HV1.out, F1.out⟩
    | true =>
      by_cases hgt : now < a
      · go_wp2_with fail
        go_ret
        obtain ⟨s1, s2⟩ := late_stop (L := L2) (now := now) (.inr (by rw [HA.out]; exact hgt))
        exact ⟨v1, l1, D', _, rfl, by rw [HE.out, s1, List.append_nil]; exact R1.out, by rw [HLT.out, s2]; exact Q1.out, HV1.out, F1.out⟩
      · obtain ⟨x, L3, hL⟩ : ∃ x L3, L2 = x :: L3 := by
          have := HT.out
          cases L2 with
          | nil => simp [nextB] at this
          | cons x L3 => exact ⟨x, L3, rfl⟩
        have hy : l1[0]? = some x := by rw [TOP.out rfl, hL]; rfl
        have hpos : 0 < l1.length := (List.getElem?_eq_some_iff.1 hy).1
        obtain ⟨n, hn⟩ : ∃ n, l1.length = n + 1 := ⟨l1.length - 1, by omega⟩
        obtain ⟨g, cap, hav⟩ : ∃ g cap, v1 = .slice (some ⟨g, 0, none⟩) (n + 1) cap := by
          rcases Q1.out.form with ⟨h, _⟩ | ⟨g, cap, h⟩
          · subst h; simp at hn
          · exact ⟨g, cap, by rw [h, hn]⟩
        subst hav
        have PO := Lib.hid (pop21 b 0 g n cap (.map (some mb)) l1 x w1 hn (by have := Q1.out.lN; omega) hy Q1.out.hp)
        have HK := Lib.hid (keyK (Q1.out.fit x (List.mem_of_getElem? hy)).2)
        have HY := Lib.hid hy
        have HL2 := Lib.hid hL
        have hcnt : L1.length + 1 ≤ 1000000 := due_bound HQ.out hN (by have := HLN.out; rw [hL] at this; simp at this; omega)
        clear hL hy hpos
        go_wp2_with fail
        with_reducible refine PO.out.mono ?_
        rintro e w2 ⟨rfl, hp2, hf2⟩
        have HP2 := Lib.hid hp2
        have HF2 := Lib.hid hf2
        have OM2 := Lib.hid (due_om Q1.out hf2)
        have c2 := blk_cell (i := 2) hp2.blk
        have bl2 := blk_lt hp2.blk
        simp only [List.getElem?_toArray, List.getElem?_cons_zero, List.getElem?_cons_succ] at c2
        clear hp2 hf2
        go_wp2_with fail
        go_region_law ((with_reducible apply step_delete (hgd := rfl) (t := 52) (k := 9) (e := 3) (KK := strK) (ht := mapT) (R := plainElem Try.prog 3) (b := mb) (n := m) (D := D') (key := .string x.key) (kl := klit x.key)); (case hop => exact rfl); (case hm => exact rfl); (case hown => exact (OM2.out.alloc _).drew); (case hx => exact rfl); (case hkey => exact HK.out); (intro w4 ho4 ht4))
        all_goals
          have E4 := Lib.hid (due_end HQ.out Q1.out hn HY.out HL2.out HP2.out HF2.out R1.out HV1.out ho4 ht4)
          have t4 := due_cell (x := x) ho4 ht4 OM2.out
          clear ho4 ht4 c2 bl2
          go_wp2_with (at_builtin; refine Stop.out ?_)
          refine Stop.of ?_
          (with_reducible apply wpList_append_lies (hgd := rfl) (t := 22) (base := w.heap.size) (e := 9) (i := i0) (z := .string ByteArray.empty) (size := 1) (bytes := 16) (n := L1.length) (xs := keysV L1) (m := 1) (news := [.string x.key]) (ht := Try.underlying22) (hi := I1.out) (hz := I2.out) (hsize := I3.out) (hby := I4.out) (hzs := rfl) (ad := ⟨w4.heap.size, 0, none⟩) (c := 1) (H := w4.heap.size + 1))
          case ho => exact rfl
          case hs => exact rfl
          case hx => exact rfl
          case hsz => decide
          case hown => exact E4.out.2.2.alloc _
          case hl => exact rfl
          case hnews => exact World.news_of_block (t := 9) (fr := (0, 0)) (cs := #[.string x.key]) (at_first _ _)
          case h1 => intro u hu; simp at hu; subst hu; rfl
          case hm => decide
          case h63 => exact Nat.le_trans hcnt (by decide)
          case hbytes => omega
          case hbase => exact due_base E4.out.2.1 F1.out
          case hH => simp
          case h =>
            intro g' cap' w5 hown5 hgrow5 hat5 hlt5
            go_wp2_with fail
            go_roundg L3.length
            case rel =>
              obtain ⟨q4, f4, r4⟩ := E4.out
              obtain ⟨q5, f5⟩ := due_after HQ.out q4 HV1.out r4 hgrow5
              obtain ⟨s1, s2⟩ := late_go (x := x) (L := L3) (now := now) (by have := HA.out; rw [HL2.out] at this; simp only [nextA] at this; omega)
              refine ⟨_, _, _, L1 ++ [x], L3, rfl, by rw [HE.out, HL2.out, s1]; simp, by rw [HLT.out, HL2.out, s2], ?_, ?_, q5, HV1.out, (F1.out.trans f4 (fun _ e => .inl e)).trans f5 (fun _ e => .inr e)⟩
              · have := HLN.out; rw [HL2.out] at this; simp at this ⊢; omega
              · simpa [keysV] using hown5
            case measure => have := HGK.out; rw [HL2.out] at this; simp at this; omega
end Go.Proofs.Ytmbjkkoennadkaa
