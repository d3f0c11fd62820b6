/-
  Laws and contracts for the statement TopExpired.
-/
import Derived.Test.YtbikkioipamlmaaGreatDoorX36
open Go.Lib (hid)
open Go.Proofs.Tryz (prog)
set_option linter.unusedVariables false
set_option linter.unusedSimpArgs false
set_option maxRecDepth 100000
set_option maxHeartbeats 20000000
namespace Go.Proofs.YtbikkioipamlmaaGreatDoor
open Go.Maps Go.RowKit
structure RD (w : World) (rp ob nb tb oc nc tc : Nat) (S : List (List Int)) (lf wt : Nat) : Prop where
  blk : w.heap[rp]? = some (.cells #[.slice (some ⟨ob, 0, none⟩) (64 * S.length) oc, .slice (some ⟨nb, 0, none⟩) (64 * S.length) nc, .slice (some ⟨tb, 0, none⟩) S.length tc, .bool false, .int .i64 (-(lf : Int)), .bool false, .int .i64 (wt : Int)] 197 (0, 0))
  old : ∃ cs, w.heap[ob]? = some (.cells cs 5 (0, 0)) /\ 64 * S.length <= cs.size
  new : ∃ cs, w.heap[nb]? = some (.cells cs 5 (0, 0)) /\ 64 * S.length <= cs.size /\ cs.toList.take (64 * S.length) = u8s S.flatten
  drt : ∃ cs, w.heap[tb]? = some (.cells cs 4 (0, 0)) /\ S.length <= cs.size
  ok : SecOk S
  len : 1 <= S.length /\ S.length <= 1000
  cap : (64 * S.length <= oc /\ oc <= maxLen) /\ (64 * S.length <= nc /\ nc <= maxLen) /\ (S.length <= tc /\ tc <= maxLen)
  ne : (rp ≠ ob /\ rp ≠ nb /\ rp ≠ tb) /\ (ob ≠ nb /\ ob ≠ tb) /\ nb ≠ tb
  lb : lf <= 100000 /\ wt <= 100000
def rdF (rp ob nb tb : Nat) : Nat -> Prop := fun j => j = rp \/ j = ob \/ j = nb \/ j = tb
section
variable {w w' : World} {rp ob nb tb oc nc tc : Nat} {S : List (List Int)} {lf wt : Nat}
theorem RD.lt (h : RD w rp ob nb tb oc nc tc S lf wt) : ∀ j, rdF rp ob nb tb j -> j < w.heap.size := by
  rintro j (rfl | rfl | rfl | rfl)
  · exact lB h.blk
  · obtain ⟨cs, h1, _⟩ := h.old; exact lB h1
  · obtain ⟨cs, h1, _⟩ := h.new; exact lB h1
  · obtain ⟨cs, h1, _⟩ := h.drt; exact lB h1
theorem RD.fr (h : RD w rp ob nb tb oc nc tc S lf wt) {F : Nat -> Prop} (hf : Fr F w w') (hd : ∀ j, rdF rp ob nb tb j -> ¬ F j) : RD w' rp ob nb tb oc nc tc S lf wt := by
  have hk : ∀ j, rdF rp ob nb tb j -> w'.heap[j]? = w.heap[j]? := fun j hj => hf.block j (h.lt j hj) (hd j hj)
  refine ⟨by rw [hk _ (.inl rfl)]; exact h.blk, ?_, ?_, ?_, h.ok, h.len, h.cap, h.ne, h.lb⟩
  · rw [hk _ (.inr (.inl rfl))]; exact h.old
  · rw [hk _ (.inr (.inr (.inl rfl)))]; exact h.new
  · rw [hk _ (.inr (.inr (.inr rfl)))]; exact h.drt
theorem RD.below (h : RD w rp ob nb tb oc nc tc S lf wt) (hb : Below w.heap.size w w') : RD w' rp ob nb tb oc nc tc S lf wt := h.fr (F := fun _ => False) (.of_below hb) (fun _ _ f => f)
theorem rburn8 (h : RD w rp ob nb tb oc nc tc S lf wt) (hl : lf + 1 <= 100000) :
    Calls prog 174 #[.pointer (some ⟨rp, 0, none⟩)] w fun e w' => e = .returned (.bool true) /\ RD w' rp ob nb tb oc nc tc S (lf + 1) wt /\ Fr (fun j => j = rp) w w' := by
  have c3 := qB (i := 3) h.blk
  have c4 := qB (i := 4) h.blk
  have f4 := zB (i := 4) h.blk
  have hr := lB h.blk
  have hlb := h.lb
  have hw1 : IntKind.i64.wrap (-(lf : Int) - 1) = -(lf : Int) - 1 := IntWalk.i64_in _ (by omega)
  have H := hid h
  clear h
  go_enter Tryz.func174, Tryz.ntmps174
  go_wp2_with fail
  go_ret
  have f := fS w rp 4 (.int .i64 (-(lf : Int) - 1))
  have hne := H.out.ne
  have hk : ∀ j, j < w.heap.size -> j ≠ rp -> (w.setCell ⟨rp, 4, none⟩ (.int .i64 (-(lf : Int) - 1))).heap[j]? = w.heap[j]? := fun j hj hn => f.block j hj hn
  have ll := H.out.lt
  refine ⟨rfl, ⟨?_, ?_, ?_, ?_, H.out.ok, H.out.len, H.out.cap, hne, by omega⟩, f⟩
  · rw [uB H.out.blk]
    have e : -((lf + 1 : Nat) : Int) = -(lf : Int) - 1 := by omega
    rw [e]; rfl
  · rw [hk ob (ll _ (.inr (.inl rfl))) (fun e => hne.1.1 e.symm)]; exact H.out.old
  · rw [hk nb (ll _ (.inr (.inr (.inl rfl)))) (fun e => hne.1.2.1 e.symm)]; exact H.out.new
  · rw [hk tb (ll _ (.inr (.inr (.inr rfl)))) (fun e => hne.1.2.2 e.symm)]; exact H.out.drt
def wrL (N : List Int) (o : Nat) (p : List Int) : List Int := N.take o ++ (p ++ N.drop (o + p.length))
theorem wrL_step (N : List Int) (o k : Nat) (p : List Int) (x : Int) (hx : p[k]? = some x) (hk : k < p.length) (hN : o + p.length <= N.length) : (wrL N o (p.take k)).set (o + k) x = wrL N o (p.take (k + 1)) := by
  have h1 : (N.take o).length = o := by rw [List.length_take]; omega
  have h2 : (p.take k).length = k := by rw [List.length_take]; omega
  have h3 : (p.take (k + 1)).length = k + 1 := by rw [List.length_take]; omega
  unfold wrL
  rw [h2, h3, List.set_append_right _ _ (by omega), h1, show o + k - o = k from by omega, List.set_append_right _ _ (by omega), h2, Nat.sub_self, List.take_add_one, hx, List.append_assoc]
  rw [show N.drop (o + k) = (N.drop (o + k))[0]'(by rw [List.length_drop]; omega) :: N.drop (o + (k + 1)) from by
    rw [List.getElem_drop, show o + (k + 1) = o + k + 1 from rfl]; exact List.drop_eq_getElem_cons (by omega)]
  rfl
theorem wrL_zero (N : List Int) (o : Nat) : wrL N o [] = N := by unfold wrL; simp
end
theorem own_full {w : World} {B n : Nat} {v : Value} {xs : List Value} (h : w.ownsRow B 5 1 v n xs) (h0 : 0 < n) : ∃ g c cs, v = .slice (some ⟨g, 0, none⟩) n c /\ B <= g /\ w.heap[g]? = some (.cells cs 5 (0, 0)) /\ n <= c /\ c <= maxLen /\ n <= cs.size /\ cs.toList.take n = xs := by
  obtain ⟨h1, h2⟩ := h
  rcases h2 with h2 | ⟨g, c, cs, e, hB, hg, hn, hc, hs, ht⟩
  · exact absurd (show n = 0 from h2.2) (by omega)
  · exact ⟨g, c, cs, e, hB, hg, hn, hc, by omega, by simpa using ht⟩
theorem boolinf : (prog.info? 4).map (fun i => (i.zero, i.size, i.bytes)) = some (some (.bool false), 1, 1) := by kernel_rfl
theorem makeb (n : Nat) (hn : n <= 1000) : ∃ cs : Array Value, cs.size = n /\ ∀ W : World, (Instr.makeSlice 34 (.int .i64 (n : Int)) (.int .i64 (n : Int))).run prog W = .ok (.slice (some ⟨W.heap.size, 0, none⟩) n n) (W.alloc (.cells cs 4)) := by
  obtain ⟨i, hi, hzz, hs, hb⟩ := info_parts boolinf
  refine ⟨madeCells (Value.bool false).cells (n * 1), by rw [size_madeCells, Nat.mul_one], fun W => ?_⟩
  have hr := run_make (P := prog) W 34 4 i _ Tryz.underlying34 hi hzz .i64 .i64 (n : Int) (n : Int) (by omega) (by omega) (by rw [hb]; omega) (by omega)
  rw [Int.toNat_natCast, hs] at hr
  exact hr
theorem rd_mk {W : World} {rp g1 g2 tb c1 c2 : Nat} {S : List (List Int)} {cs1 cs2 bs : Array Value} (o1 : W.heap[g1]? = some (.cells cs1 5 (0, 0))) (o2 : W.heap[g2]? = some (.cells cs2 5 (0, 0))) (o3 : W.heap[tb]? = some (.cells bs 4 (0, 0)))
    (hS : SecOk S) (h1 : 1 <= S.length) (h2 : S.length <= 1000) (r1 : 64 * S.length <= c1) (s1 : c1 <= maxLen) (t1 : 64 * S.length <= cs1.size) (r2 : 64 * S.length <= c2) (s2 : c2 <= maxLen) (t2 : 64 * S.length <= cs2.size) (u2 : cs2.toList.take (64 * S.length) = u8s S.flatten) (hb : bs.size = S.length) (n1 : g1 ≠ g2) (n2 : g1 ≠ tb) (n3 : g2 ≠ tb) (he : rp = W.heap.size) :
    RD (W.alloc (.cells #[.slice (some ⟨g1, 0, none⟩) (64 * S.length) c1, .slice (some ⟨g2, 0, none⟩) (64 * S.length) c2, .slice (some ⟨tb, 0, none⟩) S.length S.length, .bool false, .int .i64 0, .bool false, .int .i64 0] 197)) rp g1 g2 tb c1 c2 S.length S 0 0 :=
  he ▸
  have l1 := lB o1
  have l2 := lB o2
  have l3 := lB o3
  ⟨nB _ _, ⟨cs1, old_at o1 _, t1⟩, ⟨cs2, old_at o2 _, t2, u2⟩, ⟨bs, old_at o3 _, by omega⟩, hS, ⟨h1, h2⟩, ⟨⟨r1, s1⟩, ⟨r2, s2⟩, ⟨Nat.le_refl _, by unfold maxLen; omega⟩⟩, ⟨⟨by omega, by omega, by omega⟩, ⟨n1, n2⟩, n3⟩, ⟨by omega, by omega⟩⟩
theorem gr_at {W w' : World} {g : Nat} {o : Obj} (hg : W.grownBy w' (Value.slice none 0 0).ownBlock) (h : W.heap[g]? = some o) (hl : g < W.heap.size) : w'.heap[g]? = some o := (hg.block g hl (fun e => by cases e)).trans h
theorem bel_nil {w0 W w' : World} (h3 : Below w0.heap.size w0 W) (hg : W.grownBy w' (Value.slice none 0 0).ownBlock) : Below w0.heap.size w0 w' := h3.grown hg h3.size (fun j hj => by cases hj)
theorem rof8 (S : List (List Int)) (a : Option Addr) (c : Nat) (w : World) (h : Rd8 w a (64 * S.length) c S.flatten) (hS : SecOk S) (h1 : 1 <= S.length) (h2 : S.length <= 1000) :
    Calls prog 96 #[.slice a (64 * S.length) c] w fun e w' => ∃ rp ob nb tb oc nc tc, e = .returned (.pointer (some ⟨rp, 0, none⟩)) /\ RD w' rp ob nb tb oc nc tc S 0 0 /\ (∀ j, rdF rp ob nb tb j -> w.heap.size <= j) /\ Below w.heap.size w w' := by
  obtain ⟨i0, hi, hz0, hz1, hz2⟩ := info_parts u8info
  have I1 := hid hi; have I2 := hid hz0; have I3 := hid hz1; have I4 := hid hz2
  have H := hid h
  have B0 := hid (show Below w.heap.size w w.drew from (Below.refl _ _).drew)
  have B0a := hid (fun (o : Obj) => (show Below w.heap.size w (w.drew.alloc o) from ((Below.refl _ _).drew).alloc (Nat.le_refl _) o))
  obtain ⟨bs, hbs, hmk⟩ := makeb S.length h2
  have hpos : 0 < 64 * S.length := by omega
  have hw9 : IntKind.i64.wrap (64 * (S.length : Int)) = 64 * (S.length : Int) := IntWalk.i64_in _ (by omega)
  have hq : (64 * (S.length : Int)).tdiv 64 = (S.length : Int) := by rw [Int.tdiv_eq_ediv_of_nonneg (by omega)]; omega
  have hm1 : 0 + 64 * S.length <= maxLen := by unfold maxLen; omega
  have hw8 : IntKind.i64.wrap (S.length : Int) = (S.length : Int) := IntWalk.i64_in _ (by omega)
  clear h hi hz0 hz1 hz2
  go_enter Tryz.func96, Tryz.ntmps96
  go_upto_region 1 with fail
  trace_state
  go_region_law
    (first
      | ((with_reducible apply step_app (hgd := rfl) (t := 33) (e := 5) (i := i0) (z := .int .u8 0) (size := 1) (bytes := 1) (v := .slice none 0 0) (n := 0) (xs := []) (m := 64 * S.length) (news := u8s S.flatten) (ht := Tryz.underlying33) (hi := I1.out) (hz := I2.out) (hsize := I3.out) (hby := I4.out) (hzs := rfl)); (case ho => exact rfl); (case hs => exact rfl); (case hx => exact rfl); (case hbase => exact Nat.le_refl _); (case hsz => decide); (case hown => exact own_nil _ _ _ _); (case hsrc => exact (H.out.below hb1 (Nat.le_refl _)).src); (case h1 => exact ints_one .u8 _); (case h63 => exact hm1); (case hbytes => omega); (intro v2 w2 hown2 hgrow2); (simp only [Nat.zero_add, List.nil_append] at hown2); (obtain ⟨g2, c2, cs2, rfl, p2, q2, r2, s2, t2, u2⟩ := own_full hown2 hpos))
      | ((with_reducible apply step_app (hgd := rfl) (t := 33) (e := 5) (i := i0) (z := .int .u8 0) (size := 1) (bytes := 1) (v := .slice none 0 0) (n := 0) (xs := []) (m := 64 * S.length) (news := u8s S.flatten) (ht := Tryz.underlying33) (hi := I1.out) (hz := I2.out) (hsize := I3.out) (hby := I4.out) (hzs := rfl)); (case ho => exact rfl); (case hs => exact rfl); (case hx => exact rfl); (case hbase => exact Nat.le_refl _); (case hsz => decide); (case hown => exact own_nil _ _ _ _); (case hsrc => exact (H.out.below (hb1a _) (Nat.le_refl _)).src); (case h1 => exact ints_one .u8 _); (case h63 => exact hm1); (case hbytes => omega); (intro v2 w2 hown2 hgrow2); (simp only [Nat.zero_add, List.nil_append] at hown2); (obtain ⟨g2, c2, cs2, rfl, p2, q2, r2, s2, t2, u2⟩ := own_full hown2 hpos))
      | ((with_reducible apply step_app (hgd := rfl) (t := 33) (e := 5) (i := i0) (z := .int .u8 0) (size := 1) (bytes := 1) (v := .slice none 0 0) (n := 0) (xs := []) (m := 64 * S.length) (news := u8s S.flatten) (ht := Tryz.underlying33) (hi := I1.out) (hz := I2.out) (hsize := I3.out) (hby := I4.out) (hzs := rfl)); (case ho => exact rfl); (case hs => exact rfl); (case hx => exact rfl); (case hbase => exact Nat.le_refl _); (case hsz => decide); (case hown => exact own_nil _ _ _ _); (case hsrc => exact (H.out.below B0.out (Nat.le_refl _)).src); (case h1 => exact ints_one .u8 _); (case h63 => exact hm1); (case hbytes => omega); (intro v1 w1 hown1 hgrow1); (simp only [Nat.zero_add, List.nil_append] at hown1); (obtain ⟨g1, c1, cs1, rfl, p1, q1, r1, s1, t1, u1⟩ := own_full hown1 hpos); (have hb1 := bel_nil B0.out hgrow1); (have hb1a := fun (o : Obj) => hb1.alloc hb1.size o))
      | ((with_reducible apply step_app (hgd := rfl) (t := 33) (e := 5) (i := i0) (z := .int .u8 0) (size := 1) (bytes := 1) (v := .slice none 0 0) (n := 0) (xs := []) (m := 64 * S.length) (news := u8s S.flatten) (ht := Tryz.underlying33) (hi := I1.out) (hz := I2.out) (hsize := I3.out) (hby := I4.out) (hzs := rfl)); (case ho => exact rfl); (case hs => exact rfl); (case hx => exact rfl); (case hbase => exact Nat.le_refl _); (case hsz => decide); (case hown => exact own_nil _ _ _ _); (case hsrc => exact (H.out.below (B0a.out _) (Nat.le_refl _)).src); (case h1 => exact ints_one .u8 _); (case h63 => exact hm1); (case hbytes => omega); (intro v1 w1 hown1 hgrow1); (simp only [Nat.zero_add, List.nil_append] at hown1); (obtain ⟨g1, c1, cs1, rfl, p1, q1, r1, s1, t1, u1⟩ := own_full hown1 hpos); (have hb1 := bel_nil (B0a.out _) hgrow1); (have hb1a := fun (o : Obj) => hb1.alloc hb1.size o)))
  all_goals go_wp2_with fail
  all_goals go_ret
  · have l1 := lB q1
    have l2 := lB q2
    have a1 := gr_at hgrow2 q1 l1
    have hb2 := bel_nil hb1 hgrow2
    have z1 := B0.out.size
    have z2 := hb1.size
    have z3 := hb2.size
    refine ⟨_, g1, g2, _, c1, c2, _, rfl, rd_mk (old_at a1 _) (old_at q2 _) (nB _ _) hS h1 h2 r1 s1 t1 r2 s2 t2 u2 hbs (by omega) (by omega) (by omega) (by simp), ?_, (hb2.alloc hb2.size _).alloc (by simp; omega) _⟩
    rintro j (rfl | rfl | rfl | rfl)
    · omega
    · exact p1
    · omega
    · omega
  · have l1 := lB q1
    have l2 := lB q2
    have a1 := gr_at hgrow2 (old_at q1 _) (by simp; omega)
    have a2 := gr_at hgrow2 (nB w1 (.cells bs 4)) (by simp)
    have hb2 := bel_nil (hb1a _) hgrow2
    have z1 := B0.out.size
    have z2 := hb1.size
    have z3 := hb2.size
    rw [heap_alloc_size] at p2
    refine ⟨_, g1, g2, _, c1, c2, _, rfl, rd_mk a1 q2 a2 hS h1 h2 r1 s1 t1 r2 s2 t2 u2 hbs (by omega) (by omega) (by omega) rfl, ?_, hb2.alloc hb2.size _⟩
    rintro j (rfl | rfl | rfl | rfl)
    · omega
    · exact p1
    · omega
    · omega
  · have l1 := lB q1
    have l2 := lB q2
    have a1 := gr_at hgrow2 q1 l1
    have a0 := gr_at hgrow1 (show (w.alloc (.cells bs 4)).drew.heap[w.heap.size]? = _ from nB _ _) (by show w.heap.size < (w.alloc _).heap.size; simp)
    have a2 := gr_at hgrow2 a0 (lB a0)
    have hb2 := bel_nil hb1 hgrow2
    have z1 := B0.out.size
    have z2 := hb1.size
    have z3 := hb2.size
    have p1' : (w.alloc (.cells bs 4)).heap.size <= g1 := p1
    rw [heap_alloc_size] at p1'
    refine ⟨_, g1, g2, _, c1, c2, _, rfl, rd_mk a1 q2 a2 hS h1 h2 r1 s1 t1 r2 s2 t2 u2 hbs (by omega) (by omega) (by omega) rfl, ?_, hb2.alloc hb2.size _⟩
    rintro j (rfl | rfl | rfl | rfl)
    · omega
    · omega
    · omega
    · exact Nat.le_refl _
theorem rblank8 (n : Nat) (w : World) (h1 : 1 <= n) (h2 : n <= 1000) :
    Calls prog 35 #[.int .i64 (n : Int)] w fun e w' => ∃ rp ob nb tb oc nc tc, e = .returned (.pointer (some ⟨rp, 0, none⟩)) /\ RD w' rp ob nb tb oc nc tc (List.replicate n (List.replicate 64 0)) 0 0 /\ (∀ j, rdF rp ob nb tb j -> w.heap.size <= j) /\ Below w.heap.size w w' := by
  have hn1 : (1 : Int) <= (n : Int) := by omega
  have hn2 : (n : Int) <= 1048576 := by omega
  obtain ⟨cs, k1, k2, k3⟩ := make8 (64 * n) ((n : Int) * 64) (by omega) (by omega)
  have K1 := hid k1
  clear k1
  go_enter Tryz.func35, Tryz.ntmps35
  go_wp2_with fail
  have hfl : (List.replicate n (List.replicate 64 (0 : Int))).flatten = List.replicate (64 * n) 0 := by
    rw [List.flatten_replicate_replicate, Nat.mul_comm]
  have hrd : Rd8 (w.alloc (.cells cs 5)) (some ⟨w.heap.size, 0, none⟩) (64 * n) (64 * n) (List.replicate n (List.replicate 64 (0 : Int))).flatten := by
    rw [hfl]
    exact rd_lit (nB w _) K1.out (by simp) (Nat.le_refl _) (by unfold maxLen; omega) (.zeros _)
  have hlen : (List.replicate n (List.replicate 64 (0 : Int))).length = n := by simp
  have OF := rof8 (List.replicate n (List.replicate 64 0)) (some ⟨w.heap.size, 0, none⟩) (64 * n) (w.alloc (.cells cs 5)) (by rw [hlen]; exact hrd) ⟨fun s hs => by rw [(List.mem_replicate.1 hs).2]; simp, fun s hs => by rw [(List.mem_replicate.1 hs).2]; exact .zeros _⟩ (by omega) (by omega)
  rw [hlen] at OF
  with_reducible refine OF.mono ?_
  rintro e w2 ⟨rp, ob, nb, tb, oc, nc, tc, rfl, hd, hf, hb⟩
  go_wp2_with fail
  go_ret
  exact ⟨rp, ob, nb, tb, oc, nc, tc, rfl, hd, fun j hj => by have := hf j hj; simp at this; omega, bel1 hb⟩
end Go.Proofs.YtbikkioipamlmaaGreatDoor
namespace Go.Proofs.YtbikkioipamlmaaGreatDoor
open Go.RowKit
theorem rlive0 (tail : Int) (w : World) : Calls prog 253 #[.slice none 0 0, .int .i64 tail] w fun e w' => e = .returned (.slice none 0 0) /\ Below w.heap.size w w' := by
  obtain ⟨bs, hbs, hmk⟩ := makeb 0 (by omega)
  have hmk' : ∀ W : World, (Instr.makeSlice 34 (.int .i64 0) (.int .i64 0)).run prog W = .ok (.slice (some ⟨W.heap.size, 0, none⟩) 0 0) (W.alloc (.cells bs 4)) := hmk
  clear hmk
  go_enter Tryz.func253, Tryz.ntmps253
  go_wp2_with fail
  go_loopw [5, 18] (fun v i wr => i = .int .i64 0 /\ v = .slice none 0 0 /\ Below w.heap.size w wr) (fun _ _ _ => 0)
  case atStart => exact ⟨rfl, rfl, (Below.refl _ _).alloc (Nat.le_refl _) _⟩
  case round =>
    obtain ⟨rfl, rfl, hb⟩ := hrel
    have B := hid hb
    clear hb
    go_wp2_with fail
    go_ret
    exact ⟨rfl, B.out⟩
theorem rmap0 (now : Int) (w : World) : Calls prog 254 #[.slice none 0 0, .int .i64 now] w fun e w' => e = .returned (.slice none 0 0) /\ Below w.heap.size w w' := by
  go_enter Tryz.func254, Tryz.ntmps254
  go_wp2_with fail
  have B0 := hid (fun (o : Obj) => (Below.refl w.heap.size w).alloc (Nat.le_refl _) o)
  obtain ⟨w1, hw1⟩ : ∃ w1, w.alloc (.cells #[.slice none 0 0] 427) = w1 := ⟨_, rfl⟩
  have B1 := hid (show Below w.heap.size w w1 by rw [<- hw1]; exact B0.out _)
  have c0 : w1.cell? ⟨w.heap.size, 0, none⟩ = some (.slice none 0 0) := by rw [<- hw1]; exact qB (i := 0) (nB w _)
  have hl : w.heap.size < w1.heap.size := by rw [<- hw1]; simp
  (try rw [hw1])
  clear hw1
  go_loopw [16] (fun i wr => i = .int .i64 0 /\ wr = w1) (fun _ _ => 0)
  case atStart => exact ⟨rfl, rfl⟩
  case round =>
    obtain ⟨rfl, hwr⟩ := hrel
    rw [hwr]
    go_wp2_with fail
    go_ret
    exact ⟨rfl, B1.out⟩
theorem rrec8 (l : Lay) (n : Nat) (a : Option Addr) (c : Nat) (w : World) (h : Rd8 w a (64 * n) c (secs0 rF n l).flatten) (hS : SecOk (secs0 rF n l)) (hl : formB l = true) (hf : 74 + l.rg * l.rs <= (n : Int)) (h2 : 2 <= n) (h1 : n <= 1000) :
    Calls prog 178 #[.slice a (64 * n) c, .int .i64 0] w fun e w' => e = .returned (.tuple #[.agg #[.int .i64 1, .int .i64 1, .int .i64 0, .int .i64 1, .int .i64 0, .int .i64 l.id, .int .i64 l.ver, .int .i64 l.rs, .int .i64 l.rg, .int .i64 0, .int .i64 0, .int .i64 0, .int .i64 0, .slice none 0 0, .slice none 0 0, .int .i64 1, .int .i64 1, .int .i64 0, .int .i64 0, .slice none 0 0], .int .i64 0]) /\ Below w.heap.size w w' := by
  have LD := hid (fun (W : World) (hW : Below w.heap.size w W) => rload8 l n a c W (h.below hW (Nat.le_refl _)) hS hl h2 h1)
  have CA := hid (fun (W : World) (hW : Below w.heap.size w W) => rcand8 l n a c W (h.below hW (Nat.le_refl _)) hS hl hf h1)
  have FI := hid (fun (W : World) => rfits8 l n W hl hf h1)
  have LA := hid (fun (W : World) => rlays8 l W)
  have LV := hid (fun (W : World) => rlive0 1 W)
  have MP := hid (fun (W : World) => rmap0 0 W)
  have hw9 : IntKind.i64.wrap (64 * (n : Int)) = 64 * (n : Int) := IntWalk.i64_in _ (by omega)
  have hw8 : IntKind.i64.wrap (n : Int) = (n : Int) := IntWalk.i64_in _ (by omega)
  have hq : (64 * (n : Int)).tdiv 64 = (n : Int) := by rw [Int.tdiv_eq_ediv_of_nonneg (by omega)]; omega
  have h3 : ¬ 64 * (n : Int) < 128 := by omega
  clear h hS hl hf
  go_enter Tryz.func178, Tryz.ntmps178
  go_wp2_with fail
  with_reducible refine (LD.out _ ((Below.refl _ _).alloc (Nat.le_refl _) _)).mono ?_
  rintro e w1 ⟨rfl, hb1⟩
  have B1 := hid (bel1 hb1)
  have HZ1 := hid (bel1n hb1)
  have hl1 := lB HZ1.out
  clear hb1
  go_wp2_with fail
  with_reducible refine (LA.out _).mono ?_
  rintro e w3 ⟨⟨v3, rfl, hv3⟩, hb3⟩
  obtain ⟨g, c3, rfl, hg, k0, k1, k2, k3⟩ := hv3
  have B3 := hid (tB B1.out (bel1 hb3))
  have HX3 := hid (bel1n hb3)
  have HZ3 := hid (bel_old hb3 (old_at HZ1.out _))
  have CK := hid (show ∀ W, Below w3.heap.size w3 W -> W.cell? ⟨g, 0, none⟩ = some (.int .i64 l.id) /\ W.cell? ⟨g, 1, none⟩ = some (.int .i64 l.ver) /\ W.cell? ⟨g, 2, none⟩ = some (.int .i64 l.rs) /\ W.cell? ⟨g, 3, none⟩ = some (.int .i64 l.rg) from fun W hW => ⟨((bcell hW).1 _ _ hg).trans k0, ((bcell hW).1 _ _ hg).trans k1, ((bcell hW).1 _ _ hg).trans k2, ((bcell hW).1 _ _ hg).trans k3⟩)
  clear hb3 k0 k1 k2 k3
  go_upto_region 9 with fail
  go_loopw [41] (fun i wr => ∃ k : Nat, k <= 1 /\ i = .int .i64 k /\ Below w3.heap.size w3 wr) (fun i _ => 1 - (intOf i).toNat)
  case atStart => exact ⟨0, by omega, rfl, Below.refl _ _⟩
  case round =>
    obtain ⟨k, hk, rfl, hb⟩ := hrel
    have BK := hid hb
    have hgl : g < wr.heap.size := Nat.lt_of_lt_of_le hg hb.size
    have hcase : k = 0 \/ k = 1 := by omega
    rcases hcase with rfl | rfl
    · obtain ⟨k0, k1, k2, k3⟩ := CK.out _ hb
      clear hb hk
      go_wp2_with fail
      with_reducible refine (FI.out _).mono ?_
      rintro e w4 ⟨rfl, hb4⟩
      have B4 := hid (tB BK.out (bel1 hb4))
      clear hb4 k0 k1 k2 k3
      go_wp2_with fail
      go_roundw
      case rel => exact ⟨1, by omega, rfl, B4.out⟩
      case measure => simp [intOf]
    · obtain ⟨wq, rfl⟩ : ∃ q, q = wr := ⟨_, rfl⟩
      have HX4 := hid (bel_old hb HX3.out)
      have HZ4 := hid (bel_old hb HZ3.out)
      have hl4 := lB HX4.out
      clear hb hk
      have d0 := qB (i := 0) HX4.out
      have d1 := qB (i := 1) HX4.out
      have d2 := qB (i := 2) HX4.out
      have d3 := qB (i := 3) HX4.out
      have d4 := qB (i := 4) HX4.out
      have d5 := qB (i := 5) HX4.out
      have d6 := qB (i := 6) HX4.out
      have d7 := qB (i := 7) HX4.out
      have d8 := qB (i := 8) HX4.out
      have d9 := qB (i := 9) HX4.out
      have d10 := qB (i := 10) HX4.out
      have d11 := qB (i := 11) HX4.out
      have d12 := qB (i := 12) HX4.out
      have d13 := qB (i := 13) HX4.out
      go_upto_region 14 with fail
      iterate 28 (first | go_values | go_skip | go_guarded | go_step | go_upon | go_back | go_simp)
      refine wpList_store_row rfl 290 (.tmp 10) (.tmp 60) rfl wq.heap.size #[.int .i64 1, .int .i64 1, .int .i64 0, .int .i64 1, .int .i64 0, .int .i64 l.id, .int .i64 l.ver, .int .i64 l.rs, .int .i64 l.rg, .int .i64 0, .int .i64 0, .int .i64 0, .int .i64 0, .slice none 0 0, .slice none 0 0, .int .i64 1, .int .i64 1, .int .i64 0, .int .i64 0, .slice none 0 0] rfl rfl 290 _ (nB wq _) (by kernel_rfl) rfl (by simp [Value.oneCell']) ?_
      rw [World.setRow_alloc_new]
      obtain ⟨w5, hw5⟩ : ∃ w5, wq.alloc (.cells #[.int .i64 1, .int .i64 1, .int .i64 0, .int .i64 1, .int .i64 0, .int .i64 l.id, .int .i64 l.ver, .int .i64 l.rs, .int .i64 l.rg, .int .i64 0, .int .i64 0, .int .i64 0, .int .i64 0, .slice none 0 0, .slice none 0 0, .int .i64 1, .int .i64 1, .int .i64 0, .int .i64 0, .slice none 0 0] 290) = w5 := ⟨_, rfl⟩
      have B5 := hid (show Below wq.heap.size wq w5 by rw [<- hw5]; exact (Below.refl _ _).alloc (Nat.le_refl _) _)
      have HS5 := hid (show w5.heap[wq.heap.size]? = some (.cells #[.int .i64 1, .int .i64 1, .int .i64 0, .int .i64 1, .int .i64 0, .int .i64 l.id, .int .i64 l.ver, .int .i64 l.rs, .int .i64 l.rg, .int .i64 0, .int .i64 0, .int .i64 0, .int .i64 0, .slice none 0 0, .slice none 0 0, .int .i64 1, .int .i64 1, .int .i64 0, .int .i64 0, .slice none 0 0] 290 (0, 0)) by rw [<- hw5]; exact nB wq _)
      have HX5 := hid (bel_old B5.out HX4.out)
      have HZ5 := hid (bel_old B5.out HZ4.out)
      have BB5 := hid (tB B3.out (tB BK.out B5.out))
      have hl5 := lB HX5.out
      rw [hw5]
      clear hw5 d0 d1 d2 d3 d4 d5 d6 d7 d8 d9 d10 d11 d12 d13
      have d0 := qB (i := 0) HX5.out
      have d1 := qB (i := 1) HX5.out
      have d2 := qB (i := 2) HX5.out
      have d3 := qB (i := 3) HX5.out
      have d4 := qB (i := 4) HX5.out
      have d5 := qB (i := 5) HX5.out
      have d6 := qB (i := 6) HX5.out
      have d7 := qB (i := 7) HX5.out
      have d8 := qB (i := 8) HX5.out
      have d9 := qB (i := 9) HX5.out
      have d10 := qB (i := 10) HX5.out
      have d11 := qB (i := 11) HX5.out
      have d12 := qB (i := 12) HX5.out
      have d13 := qB (i := 13) HX5.out
      go_wp2_with fail
      with_reducible refine (CA.out _ BB5.out).mono ?_
      rintro e w6 ⟨rfl, hb6⟩
      have BB6 := hid (tB BB5.out hb6)
      have HS6 := hid (bel_old hb6 HS5.out)
      have HX6 := hid (bel_old hb6 HX5.out)
      have HZ6 := hid (bel_old hb6 HZ5.out)
      have BZ := hid (show w.heap.size < w1.heap.size /\ w1.heap.size < wq.heap.size from ⟨hl1, hl4⟩)
      clear hb6 d0 d1 d2 d3 d4 d5 d6 d7 d8 d9 d10 d11 d12 d13
      go_wp2_with fail
      go_loopw [66] (fun i wx => i = .int .i64 0 /\ wx = w6) (fun _ _ => 0)
      case atStart => exact ⟨rfl, rfl⟩
      case round =>
        obtain ⟨rfl, hwr⟩ := hrel
        rw [hwr]
        have hs6 := lB HS6.out
        have hx6 := lB HX6.out
        have x1 := qB (i := 1) HX6.out
        have d14 := qB (i := 14) HS6.out
        have df14 := zB (i := 14) HS6.out
        have d15 := qB (i := 15) HS6.out
        have df15 := zB (i := 15) HS6.out
        have d16 := qB (i := 16) HS6.out
        have df16 := zB (i := 16) HS6.out
        have d17 := qB (i := 17) HS6.out
        have df17 := zB (i := 17) HS6.out
        have d18 := qB (i := 18) HS6.out
        have df18 := zB (i := 18) HS6.out
        have d19 := qB (i := 19) HS6.out
        have df19 := zB (i := 19) HS6.out
        go_wp2_with fail
        obtain ⟨w7, hw7⟩ : ∃ w7, w6.setCell ⟨wq.heap.size, 16, none⟩ (.int .i64 1) = w7 := ⟨_, rfl⟩
        have HS7 := hid (show w7.heap[wq.heap.size]? = some (.cells #[.int .i64 1, .int .i64 1, .int .i64 0, .int .i64 1, .int .i64 0, .int .i64 l.id, .int .i64 l.ver, .int .i64 l.rs, .int .i64 l.rg, .int .i64 0, .int .i64 0, .int .i64 0, .int .i64 0, .slice none 0 0, .slice none 0 0, .int .i64 1, .int .i64 1, .int .i64 0, .int .i64 0, .slice none 0 0] 290 (0, 0)) by rw [<- hw7]; exact uB HS6.out _)
        have F7 := hid (show Fr (fun j => j = wq.heap.size) w6 w7 by rw [<- hw7]; exact fS _ _ _ _)
        have BB7 := hid (show Below w.heap.size w w7 by rw [<- hw7]; exact sB BB6.out (by omega))
        have HZ7 := hid ((F7.out.block w.heap.size (lB HZ6.out) (by omega)).trans HZ6.out)
        rw [hw7]
        clear d14 df14 d15 df15 d16 df16 d17 df17 d18 df18 d19 df19
        clear hw7 x1
        with_reducible refine (LV.out _).mono ?_
        rintro e w8 ⟨rfl, hb8⟩
        have BB8 := hid (tB BB7.out hb8)
        have HS8 := hid (bel_old hb8 HS7.out)
        have HZ8 := hid (bel_old hb8 HZ7.out)
        have hs8 := lB HS8.out
        clear hb8
        have d14 := qB (i := 14) HS8.out
        have df14 := zB (i := 14) HS8.out
        have d15 := qB (i := 15) HS8.out
        have df15 := zB (i := 15) HS8.out
        have d16 := qB (i := 16) HS8.out
        have df16 := zB (i := 16) HS8.out
        have d17 := qB (i := 17) HS8.out
        have df17 := zB (i := 17) HS8.out
        have d18 := qB (i := 18) HS8.out
        have df18 := zB (i := 18) HS8.out
        have d19 := qB (i := 19) HS8.out
        have df19 := zB (i := 19) HS8.out
        go_wp2_with fail
        obtain ⟨w9, hw9⟩ : ∃ w9, w8.setCell ⟨wq.heap.size, 14, none⟩ (.slice none 0 0) = w9 := ⟨_, rfl⟩
        have HS9 := hid (show w9.heap[wq.heap.size]? = some (.cells #[.int .i64 1, .int .i64 1, .int .i64 0, .int .i64 1, .int .i64 0, .int .i64 l.id, .int .i64 l.ver, .int .i64 l.rs, .int .i64 l.rg, .int .i64 0, .int .i64 0, .int .i64 0, .int .i64 0, .slice none 0 0, .slice none 0 0, .int .i64 1, .int .i64 1, .int .i64 0, .int .i64 0, .slice none 0 0] 290 (0, 0)) by rw [<- hw9]; exact uB HS8.out _)
        have F9 := hid (show Fr (fun j => j = wq.heap.size) w8 w9 by rw [<- hw9]; exact fS _ _ _ _)
        have BB9 := hid (show Below w.heap.size w w9 by rw [<- hw9]; exact sB BB8.out (by omega))
        have HZ9 := hid ((F9.out.block w.heap.size (lB HZ8.out) (by omega)).trans HZ8.out)
        rw [hw9]
        clear d14 df14 d15 df15 d16 df16 d17 df17 d18 df18 d19 df19
        clear hw9
        have hs9 := lB HS9.out
        have d14 := qB (i := 14) HS9.out
        have df14 := zB (i := 14) HS9.out
        have d15 := qB (i := 15) HS9.out
        have df15 := zB (i := 15) HS9.out
        have d16 := qB (i := 16) HS9.out
        have df16 := zB (i := 16) HS9.out
        have d17 := qB (i := 17) HS9.out
        have df17 := zB (i := 17) HS9.out
        have d18 := qB (i := 18) HS9.out
        have df18 := zB (i := 18) HS9.out
        have d19 := qB (i := 19) HS9.out
        have df19 := zB (i := 19) HS9.out
        go_loopw [16, 130] (fun v i wx => i = .int .i64 0 /\ v = .slice none 0 0 /\ wx = w9) (fun _ _ _ => 0)
        case atStart => exact ⟨rfl, rfl, rfl⟩
        case round =>
          obtain ⟨rfl, rfl, hwr⟩ := hrel
          rw [hwr]
          go_wp2_with fail
          with_reducible refine (MP.out _).mono ?_
          rintro e w10 ⟨rfl, hb10⟩
          have BB10 := hid (tB BB9.out hb10)
          have HS10 := hid (bel_old hb10 HS9.out)
          have HZ10 := hid (bel_old hb10 HZ9.out)
          clear d14 df14 d15 df15 d16 df16 d17 df17 d18 df18 d19 df19
          clear hb10
          have d19 := qB (i := 19) HS10.out
          have df19 := zB (i := 19) HS10.out
          have hs10 := lB HS10.out
          go_upto_region 36 with fail
          obtain ⟨w11, hw11⟩ : ∃ w11, w10.setCell ⟨wq.heap.size, 19, none⟩ (.slice none 0 0) = w11 := ⟨_, rfl⟩
          have HS11 := hid (show w11.heap[wq.heap.size]? = some (.cells #[.int .i64 1, .int .i64 1, .int .i64 0, .int .i64 1, .int .i64 0, .int .i64 l.id, .int .i64 l.ver, .int .i64 l.rs, .int .i64 l.rg, .int .i64 0, .int .i64 0, .int .i64 0, .int .i64 0, .slice none 0 0, .slice none 0 0, .int .i64 1, .int .i64 1, .int .i64 0, .int .i64 0, .slice none 0 0] 290 (0, 0)) by rw [<- hw11]; exact uB HS10.out _)
          have F11 := hid (show Fr (fun j => j = wq.heap.size) w10 w11 by rw [<- hw11]; exact fS _ _ _ _)
          have BB11 := hid (show Below w.heap.size w w11 by rw [<- hw11]; exact sB BB10.out (by omega))
          have HZ11 := hid ((F11.out.block w.heap.size (lB HZ10.out) (by omega)).trans HZ10.out)
          rw [hw11]
          clear hw11 d19 df19
          go_step
          refine wpList_load_row rfl 290 (.tmp 10) rfl wq.heap.size rfl 290 _ (0, 0) _ HS11.out Tryz.underlying290 rfl (by kernel_rfl) ?_
          refine wpList_store_row rfl 290 (.tmp 4) (.tmp 157) rfl w.heap.size _ rfl rfl 290 _ HZ11.out (by kernel_rfl) rfl (by simp [Value.oneCell']) ?_
          go_wp2_with (with_reducible refine bodyPost_ret (results_cell2 rfl _ _ w.heap.size _ _ _ _ rfl (setRow_heap _ _ _ _ _ _ HZ11.out) Tryz.underlying290 rfl (by kernel_rfl)) rfl ?_; exact ⟨rfl, bel_setRow BB11.out (Nat.le_refl _)⟩)
end Go.Proofs.YtbikkioipamlmaaGreatDoor
namespace Go.Proofs.YtbikkioipamlmaaGreatDoor
open Go.Maps Go.RowKit
section
variable {w w' : World} {rp ob nb tb oc nc tc : Nat} {S : List (List Int)} {lf wt : Nat}
def NewP (w : World) (nb : Nat) (S : List (List Int)) (i : Nat) (p : List Int) (k : Nat) (wr : World) : Prop := (∃ cs, wr.heap[nb]? = some (.cells cs 5 (0, 0)) /\ 64 * S.length <= cs.size /\ cs.toList.take (64 * S.length) = u8s (wrL S.flatten (64 * i) (p.take k))) /\ Fr (fun j => j = nb) w wr
theorem NewP.set {w wr : World} {nb : Nat} {S : List (List Int)} {i k : Nat} {p : List Int} (h : NewP w nb S i p k wr) (hS : SecOk S) (hi : i < S.length) (hp : p.length = 64) (hk : k < 64) {x : Int} (hx : p[k]? = some x) : NewP w nb S i p (k + 1) (wr.setCell ⟨nb, i * 64 + k, none⟩ (.int .u8 x)) := by
  rw [Nat.mul_comm i 64]
  obtain ⟨⟨cs, h1, h2, h3⟩, hf⟩ := h
  have hl := flat64_length hS
  refine ⟨⟨cs.setIfInBounds (64 * i + k) (.int .u8 x), uB h1 _, by simpa using h2, ?_⟩, hf.trans (fS _ _ _ _) (fun j hj => .inl hj)⟩
  rw [Array.toList_setIfInBounds, List.take_set, h3, u8s, <- List.map_set, wrL_step S.flatten (64 * i) k p x hx (by omega) (by omega)]
theorem rwrite8 (i : Nat) (a : Option Addr) (m c : Nat) (b : List Int) (h : RD w rp ob nb tb oc nc tc S lf wt) (hi : i < S.length) (hr : Rd8 w a m c b) (hm : m <= 64) (hlf : lf + 1 <= 100000) (hwt : wt + 1 <= 100000) (hne : ∀ ad, a = some ad -> ¬ rdF rp ob nb tb ad.block) :
    Calls prog 98 #[.pointer (some ⟨rp, 0, none⟩), .int .i64 (i : Int), .slice a m c] w fun e w' => e = .returned (.int .i64 0) /\ RD w' rp ob nb tb oc nc tc (S.set i (pad64 b)) (lf + 1) (wt + 1) /\ Fr (rdF rp ob nb tb) w w' := by
  have hlen := h.len
  have hl9 := h.ne
  have hpl : (pad64 b).length = 64 := pad64_length (by rw [hr.len]; exact hm)
  have BU := hid (rburn8 h hlf)
  have H := hid h
  have HR := hid hr
  have HNE := hid hne
  have HP := hid hpl
  have hl := lB h.blk
  have HN := hid h.ne
  obtain ⟨sl, hsl⟩ : ∃ q, S.length = q := ⟨_, rfl⟩
  have c5 := qB (i := 5) h.blk
  have c2 : w.cell? ⟨rp, 2, none⟩ = some (.slice (some ⟨tb, 0, none⟩) S.length tc) := qB (i := 2) h.blk
  have hii : (i : Int) < (sl : Int) := by omega
  have hmm : (m : Int) <= 64 := by omega
  rw [hsl] at c2 hlen hi
  have HSL := hid hsl
  clear h hr hne hl9 hpl hsl
  go_enter Tryz.func98, Tryz.ntmps98
  go_wp2_with fail
  with_reducible refine BU.out.mono ?_
  rintro e w1 ⟨rfl, h1, f1⟩
  have H1 := hid h1
  have F1 := hid f1
  have R1 := hid (HR.out.fr f1 (fun ad e q => HNE.out ad e (.inl q)))
  have NP0 := hid (show NewP w1 nb S i (pad64 b) 0 w1 from ⟨by
    obtain ⟨cs, q1, q2, q3⟩ := h1.new
    exact ⟨cs, q1, q2, by rw [List.take_zero, wrL_zero]; exact q3⟩, Fr.refl _ _⟩)
  have c1 : w1.cell? ⟨rp, 1, none⟩ = some (.slice (some ⟨nb, 0, none⟩) (64 * S.length) nc) := qB (i := 1) h1.blk
  have hl1 := lB h1.blk
  have K1 := hid (show ∀ W, Fr (fun j => j = nb) w1 W -> W.cell? ⟨rp, 1, none⟩ = some (.slice (some ⟨nb, 0, none⟩) (64 * S.length) nc) from fun W hW => (fr_cell hW hl1 HN.out.1.2.1 1).trans c1)
  clear h1 f1 c5 c2 c1
  go_wp2_with fail
  go_loopw [7, 8] (fun kv _ wr => ∃ k : Nat, k <= 64 /\ kv = .int .i64 k /\ NewP w1 nb S i (pad64 b) k wr) (fun kv _ _ => 64 - (intOf kv).toNat)
  case atStart => exact ⟨0, by omega, rfl, NP0.out⟩
  case round =>
    obtain ⟨k, hk, rfl, hnp⟩ := hrel
    have NPK := hid hnp
    have e1 := K1.out wr hnp.2
    have hrl := World.block_lt_of_cell? _ _ e1
    clear hnp
    by_cases hlt : k < 64
    · obtain ⟨cs, q1, q2, -⟩ := NPK.out.1
      have Q1 := hid q1
      have hs64 : (i : Int) * 64 + (k : Int) < ((64 * S.length : Nat) : Int) := by have := HSL.out; omega
      have hcell : wr.cell? ⟨nb, i * 64 + k, none⟩ = cs[i * 64 + k]? := qB q1
      have hfrz : wr.frozen? ⟨nb, i * 64 + k, none⟩ = false := zB q1
      obtain ⟨cv, hcv⟩ : ∃ v, cs[i * 64 + k]? = some v := ⟨_, Array.getElem?_eq_getElem (by have := HSL.out; omega)⟩
      rw [hcv] at hcell
      clear q1 q2 hcv
      by_cases hkm : k < m
      · obtain ⟨g, off, rfl, hg, hc⟩ := (R1.out.fr NPK.out.2 (fun ad e q => HNE.out ad e (.inr (.inr (.inl q))))).el k hkm
        obtain ⟨x, hx⟩ : ∃ x, b[k]? = some x := ⟨_, List.getElem?_eq_getElem (by have := HR.out.len; omega)⟩
        rw [hx] at hc
        simp only [Option.getD_some] at hc
        have HX := hid (show (pad64 b)[k]? = some x by unfold pad64; rw [List.getElem?_append_left (by have := HR.out.len; omega)]; exact hx)
        clear hx
        go_wp2_with fail
        go_roundw
        case rel => exact ⟨k + 1, by omega, by go_num, NPK.out.set H.out.ok (by have := HSL.out; omega) HP.out hlt HX.out⟩
        case measure => simp [intOf]; omega
      · have HX := hid (show (pad64 b)[k]? = some 0 by
          unfold pad64
          rw [List.getElem?_append_right (by have := HR.out.len; omega), List.getElem?_replicate, if_pos (by have := HR.out.len; omega)])
        have hkm2 : ¬ ((k : Int) < (m : Int)) := by omega
        go_wp2_with fail
        go_roundw
        case rel => exact ⟨k + 1, by omega, by go_num, NPK.out.set H.out.ok (by have := HSL.out; omega) HP.out hlt HX.out⟩
        case measure => simp [intOf]; omega
    · obtain rfl : k = 64 := by omega
      have NE := hid NPK.out
      have hne := HN.out
      have H2 := hid H1.out
      have B2 := hid ((NE.out.2.block rp hl1 hne.1.2.1).trans H1.out.blk)
      obtain ⟨ds, d1, d2⟩ := H1.out.drt
      have D2 := hid ((NE.out.2.block tb (lB d1) (fun e => hne.2.2 e.symm)).trans d1)
      have e2 : wr.cell? ⟨rp, 2, none⟩ = some (.slice (some ⟨tb, 0, none⟩) S.length tc) := qB (i := 2) B2.out
      have e6 : wr.cell? ⟨rp, 6, none⟩ = some (.int .i64 (wt : Int)) := qB (i := 6) B2.out
      have y6 : wr.frozen? ⟨rp, 6, none⟩ = false := zB (i := 6) B2.out
      have hii2 : (i : Int) < (S.length : Int) := by have := HSL.out; omega
      obtain ⟨dv, hdv⟩ : ∃ v, ds[i]? = some v := ⟨_, Array.getElem?_eq_getElem (by have := HSL.out; omega)⟩
      have et : wr.cell? ⟨tb, i, none⟩ = some dv := (qB (i := i) D2.out).trans hdv
      have yt : wr.frozen? ⟨tb, i, none⟩ = false := zB (i := i) D2.out
      have hrt : ¬ rp = tb := hne.1.2.2
      have D3 := hid d2
      clear d1 d2 hdv
      go_wp2_with fail
      go_ret
      have hfl := flat64_length H.out.ok
      have hil : i < S.length := by have := HSL.out; omega
      have hwl : (wrL S.flatten (64 * i) ((pad64 b).take 64)) = (S.set i (pad64 b)).flatten := by
        rw [List.take_of_length_le (by rw [HP.out]; exact Nat.le_refl _), flat64_set H.out.ok i _ hil HP.out]
        unfold wrL
        rw [HP.out]
      have fa := fS wr tb i (.bool true)
      have fb := fS (wr.setCell ⟨tb, i, none⟩ (.bool true)) rp 6 (.int .i64 ((wt : Int) + 1))
      have fall : Fr (rdF rp ob nb tb) w ((wr.setCell ⟨tb, i, none⟩ (.bool true)).setCell ⟨rp, 6, none⟩ (.int .i64 ((wt : Int) + 1))) := (((F1.out.mono (T := rdF rp ob nb tb) (fun j _ hj => .inl hj)).trans NE.out.2 (fun j hj => .inl (.inr (.inr (.inl hj))))).trans fa (fun j hj => .inl (.inr (.inr (.inr hj))))).trans fb (fun j hj => .inl (.inl hj))
      have lo := H1.out.lt
      obtain ⟨ns, n1, n2, n3⟩ := NE.out.1
      refine ⟨rfl, ⟨?_, ?_, ?_, ?_, H.out.ok.set i HP.out (pad64_byte HR.out.byt), by rw [List.length_set]; exact H.out.len, by rw [List.length_set]; exact H.out.cap, hne, by omega⟩, fall⟩
      · rw [List.length_set]
        exact uB ((fa.block rp (lB B2.out) hrt).trans B2.out) _
      · obtain ⟨os, o1, o2⟩ := H1.out.old
        rw [List.length_set]
        exact ⟨os, (fb.block ob (Nat.lt_of_lt_of_le (Nat.lt_of_lt_of_le (lB o1) NE.out.2.size) fa.size) (fun e => hne.1.1 e.symm)).trans ((fa.block ob (Nat.lt_of_lt_of_le (lB o1) NE.out.2.size) hne.2.1.2).trans ((NE.out.2.block ob (lB o1) hne.2.1.1).trans o1)), o2⟩
      · rw [List.length_set]
        exact ⟨ns, (fb.block nb (Nat.lt_of_lt_of_le (lB n1) fa.size) (fun e => hne.1.2.1 e.symm)).trans ((fa.block nb (lB n1) hne.2.2).trans n1), n2, by rw [n3, hwl]⟩
      · rw [List.length_set]
        exact ⟨_, (fb.block tb (Nat.lt_of_lt_of_le (lB D2.out) fa.size) (fun e => hrt e.symm)).trans (uB D2.out _), by simpa using D3.out⟩
end
section
variable {w w' : World} {rp ob nb tb oc nc tc : Nat} {S : List (List Int)} {lf wt : Nat}
theorem RD.all (h : RD w rp ob nb tb oc nc tc S lf wt) : Rd8 w (some ⟨nb, 0, none⟩) (64 * S.length) nc S.flatten := by
  obtain ⟨cs, h1, h2, h3⟩ := h.new
  have hc := h.cap
  have hl := flat64_length h.ok
  refine ⟨hl, fun j hj => ⟨nb, 0, rfl, lB h1, ?_⟩, hc.2.1, (fun e => by cases e), fun z hz => ?_⟩
  · have hj2 : j < S.flatten.length := by omega
    have h4 : (u8s S.flatten)[j]? = some (.int .u8 (S.flatten[j]'hj2)) := by
      rw [u8s, List.getElem?_map, List.getElem?_eq_getElem hj2]; rfl
    rw [Nat.zero_add, qB h1, <- Array.getElem?_toList]
    rw [<- h3, List.getElem?_take, if_pos (by omega)] at h4
    rw [h4, List.getElem?_eq_getElem hj2]; rfl
  · obtain ⟨s, hs, hz⟩ := List.mem_flatten.1 hz
    exact h.ok.byt s hs z hz
theorem copy_all {w : World} {g cap m c : Nat} {a : Option Addr} {b : List Int} {cur : Array Value} (hg : w.heap[g]? = some (.cells cur 5 (0, 0))) (hr : Rd8 w a m c b) (h0 : 0 < m) (ho : m <= cur.size) :
    ∃ v w' cs, (∀ ty, (Builtin.copy_ #[33, 33] ty #[.slice (some ⟨g, 0, none⟩) m cap, .slice a m c]).run prog w = .ok v w') /\ w'.heap[g]? = some (.cells cs 5 (0, 0)) /\ cs.size = cur.size /\ Fr (fun j => j = g) w w' := by
  have hs : (prog.info? 5).map (·.size) = some 1 := by kernel_rfl
  have hl := hr.len
  obtain ⟨g', off, rfl, _, _⟩ := hr.el 0 h0
  have hcl : (u8s b).length = m := by simp [u8s, hl]
  refine ⟨_, _, (cur.toList.take 0 ++ u8s b ++ cur.toList.drop (0 + m)).toArray, fun ty => (run_copy_row (P := prog) w _ _ ty 5 g 0 m cap ⟨g', off, none⟩ m c cur 5 (u8s b) Tryz.underlying33 hs hg (by rw [hcl]; exact (Nat.min_self _).symm) (fun j v hv => ?_) (by rw [hcl]; omega) (ints_one .u8 b)).trans (by rw [hcl]), setRow_heap _ _ _ _ _ _ hg, by simp [hcl]; omega, ⟨rfl, rfl, rfl, by simp, fun k hk hne => setRow_other _ _ _ _ hne⟩⟩
  have hj : j < m := by
    have := (List.getElem?_eq_some_iff.1 hv).1
    omega
  obtain ⟨g2, o2, e, _, hc⟩ := hr.el j hj
  cases e
  rw [Go.WideShapes.add_plain, hc]
  rw [u8s, List.getElem?_map] at hv
  obtain ⟨z, hz, rfl⟩ := Option.map_eq_some_iff.1 hv
  rw [hz]; rfl
theorem rbarr8 (h : RD w rp ob nb tb oc nc tc S lf wt) (hlf : lf + 1 <= 100000) :
    Calls prog 99 #[.pointer (some ⟨rp, 0, none⟩)] w fun e w' => e = .returned (.int .i64 0) /\ RD w' rp ob nb tb oc nc tc S (lf + 1) wt /\ Fr (rdF rp ob nb tb) w w' := by
  have BU := hid (rburn8 h hlf)
  have c5 := qB (i := 5) h.blk
  have hl := lB h.blk
  have HN := hid h.ne
  have hlen := h.len
  clear h
  go_enter Tryz.func99, Tryz.ntmps99
  go_wp2_with fail
  with_reducible refine BU.out.mono ?_
  rintro e w1 ⟨rfl, h1, f1⟩
  have H1 := hid h1
  have F1 := hid f1
  obtain ⟨os, o1, o2⟩ := h1.old
  obtain ⟨vc, W2, cs, hcp, s1, s2, f2⟩ := copy_all (cap := oc) (w := w1.drew) (g := ob) (cur := os) o1 (h1.all.below (Below.refl _ _).drew (Nat.le_refl _)) (by omega) o2
  have F2 := hid (fr_undrew f2)
  have H2 := hid (show RD W2 rp ob nb tb oc nc tc S (lf + 1) wt from by
    have hne := HN.out
    have fu := fr_undrew f2
    have lo := h1.lt
    refine ⟨(fu.block rp (lB h1.blk) hne.1.1).trans h1.blk, ⟨cs, s1, by rw [s2]; exact o2⟩, ?_, ?_, h1.ok, h1.len, h1.cap, hne, h1.lb⟩
    · rw [fu.block nb (lo _ (.inr (.inr (.inl rfl)))) (fun e => hne.2.1.1 e.symm)]; exact h1.new
    · rw [fu.block tb (lo _ (.inr (.inr (.inr rfl)))) (fun e => hne.2.1.2 e.symm)]; exact h1.drt)
  have K0 := hid (show w1.drew.cell? ⟨rp, 0, none⟩ = some (.slice (some ⟨ob, 0, none⟩) (64 * S.length) oc) /\ w1.drew.cell? ⟨rp, 1, none⟩ = some (.slice (some ⟨nb, 0, none⟩) (64 * S.length) nc) from ⟨qB (i := 0) h1.blk, qB (i := 1) h1.blk⟩)
  have K2 := hid (show W2.cell? ⟨rp, 0, none⟩ = some (.slice (some ⟨ob, 0, none⟩) (64 * S.length) oc) /\ W2.cell? ⟨rp, 1, none⟩ = some (.slice (some ⟨nb, 0, none⟩) (64 * S.length) nc) from ⟨qB (i := 0) H2.out.blk, qB (i := 1) H2.out.blk⟩)
  have hl1 := lB h1.blk
  clear h1 f1 o1 o2 s1 s2 f2 c5
  go_upto_region 5 with fail
  go_region_held3 (fun w' => w'.cell? ⟨rp, 0, none⟩ = some (.slice (some ⟨ob, 0, none⟩) (64 * S.length) oc) /\ w'.cell? ⟨rp, 1, none⟩ = some (.slice (some ⟨nb, 0, none⟩) (64 * S.length) nc)) (first | with_reducible exact K0.out | with_reducible exact K2.out) (fail)
  have e2 : W2.cell? ⟨rp, 2, none⟩ = some (.slice (some ⟨tb, 0, none⟩) S.length tc) := qB (i := 2) H2.out.blk
  have hl2 := lB H2.out.blk
  go_wp2_with fail
  go_loopw [3, 25] (fun _ iv wr => ∃ k : Nat, k <= S.length /\ iv = .int .i64 k /\ RD wr rp ob nb tb oc nc tc S (lf + 1) wt /\ Fr (fun j => j = tb) W2 wr) (fun _ iv _ => S.length - (intOf iv).toNat)
  case atStart => exact ⟨0, Nat.zero_le _, rfl, H2.out, Fr.refl _ _⟩
  case round =>
    obtain ⟨k, hk, rfl, hr, hf⟩ := hrel
    have HR := hid hr
    have HF := hid hf
    have g2 : wr.cell? ⟨rp, 2, none⟩ = some (.slice (some ⟨tb, 0, none⟩) S.length tc) := qB (i := 2) hr.blk
    have hrl := lB hr.blk
    obtain ⟨ds, d1, d2⟩ := hr.drt
    have D1 := hid d1
    clear hr hf e2
    by_cases hlt : k < S.length
    · have hkl : (k : Int) < (S.length : Int) := by omega
      obtain ⟨dv, hdv⟩ : ∃ v, ds[k]? = some v := ⟨_, Array.getElem?_eq_getElem (by omega)⟩
      have et : wr.cell? ⟨tb, k, none⟩ = some dv := (qB (i := k) d1).trans hdv
      have yt : wr.frozen? ⟨tb, k, none⟩ = false := zB (i := k) d1
      have D2 := hid d2
      clear d1 d2 hdv
      go_wp2_with fail
      go_roundw
      case rel =>
        have ff := fS wr tb k (.bool false)
        have hne := HN.out
        have lo := HR.out.lt
        refine ⟨k + 1, by omega, by go_num, ⟨?_, ?_, ?_, ⟨_, uB D1.out _, by simpa using D2.out⟩, HR.out.ok, HR.out.len, HR.out.cap, hne, HR.out.lb⟩, HF.out.trans ff (fun j hj => .inl hj)⟩
        · exact (ff.block rp (lB HR.out.blk) hne.1.2.2).trans HR.out.blk
        · rw [ff.block ob (lo _ (.inr (.inl rfl))) hne.2.1.2]; exact HR.out.old
        · rw [ff.block nb (lo _ (.inr (.inr (.inl rfl)))) hne.2.2]; exact HR.out.new
      case measure => simp [intOf]; omega
    · obtain rfl : k = S.length := by omega
      clear d1 d2
      go_wp2_with fail
      go_ret
      exact ⟨rfl, HR.out, ((F1.out.mono (T := rdF rp ob nb tb) (fun j _ hj => .inl hj)).trans F2.out (fun j hj => .inl (.inr (.inl hj)))).trans HF.out (fun j hj => .inl (.inr (.inr (.inr hj))))⟩
end
end Go.Proofs.YtbikkioipamlmaaGreatDoor
