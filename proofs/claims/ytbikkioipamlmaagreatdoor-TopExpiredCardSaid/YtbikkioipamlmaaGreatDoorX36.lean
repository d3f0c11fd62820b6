/-
  Laws and contracts for the statement TopExpired.
-/
import Derived.Test.YtbikkioipamlmaaGreatDoorX27
import Derived.Test.YtbikkioipamlmaaGreatDoorX35
open Go.Lib (hid)
open Go.Proofs.Tryz (prog)
set_option linter.unusedVariables false
set_option linter.unusedSimpArgs false
set_option maxRecDepth 100000
set_option maxHeartbeats 20000000
namespace Go.Proofs.YtbikkioipamlmaaGreatDoor
open Go.RowKit
theorem rload8 (l : Lay) (n : Nat) (a : Option Addr) (c : Nat) (w : World) (h : Rd8 w a (64 * n) c (secs0 rF n l).flatten) (hS : SecOk (secs0 rF n l)) (hl : formB l = true) (h2 : 2 <= n) (h1 : n <= 1000) :
    Calls prog 248 #[.slice a (64 * n) c] w fun e w' => e = .returned (.tuple #[.agg #[.int .i64 1, .int .i64 1, .int .i64 0, .int .i64 1, .int .i64 0, .int .i64 l.id, .int .i64 l.ver, .int .i64 l.rs, .int .i64 l.rg, .int .i64 0, .int .i64 0, .int .i64 0, .int .i64 0, .slice none 0 0], .bool true]) /\ Below w.heap.size w w' := by
  have hc := h.cap_le
  have D0 := hid (show ∀ W, Below w.heap.size w W -> Calls prog 301 #[.slice (lowA a c 0) 64 c, .int .i64 0] W fun e w' => e = .returned (.tuple #[.agg #[.int .i64 0, .int .i64 0, .int .i64 0, .int .i64 0, .int .i64 0, .int .i64 0, .int .i64 0, .int .i64 0, .int .i64 0, .int .i64 0, .int .i64 0, .int .i64 0, .int .i64 0, .slice none 0 0], .bool false]) /\ Below W.heap.size W w' from fun W hW => by
    have hm := h.mid 0 64 (by omega)
    rw [show (0 : Nat) = 64 * 0 from rfl, flat64_sec hS 0 (secs0_get rF n l 0 (by omega) (by omega))] at hm
    exact rsdecZ 0 _ _ _ W (hm.below hW (Nat.le_refl _)) (frameD_zero _ _ _ _ _) (by omega) (by omega))
  have D1 := hid (show ∀ W, Below w.heap.size w W -> Calls prog 301 #[.slice (lowA a c 64) 64 (c - 64), .int .i64 1] W fun e w' => e = .returned (.tuple #[.agg #[.int .i64 1, .int .i64 1, .int .i64 0, .int .i64 1, .int .i64 0, .int .i64 l.id, .int .i64 l.ver, .int .i64 l.rs, .int .i64 l.rg, .int .i64 0, .int .i64 0, .int .i64 0, .int .i64 0, .slice none 0 0], .bool true]) /\ Below W.heap.size W w' from fun W hW => by
    have hm := h.mid 64 64 (by omega)
    rw [show (64 : Nat) = 64 * 1 from rfl, flat64_sec hS 1 (secs0_sup rF n l (by omega))] at hm
    exact rsdec8 l 1 _ _ W (hm.below hW (Nat.le_refl _)) hl (by omega) (by omega))
  have s0 := fun W => slice_mid' a (64 * n) c 0 64 0 64 64 c rfl rfl (by omega) (by omega) rfl rfl W
  have s1 := fun W => slice_mid' a (64 * n) c 64 128 64 128 64 (c - 64) rfl rfl (by omega) (by omega) rfl rfl W
  obtain ⟨m, hm⟩ : ∃ m, 64 * n = m := ⟨_, rfl⟩
  rw [hm] at s0 s1 hc ⊢
  obtain ⟨w1, hw1⟩ : ∃ w1, (w.alloc (.cells #[.int .i64 0, .int .i64 0, .int .i64 0, .int .i64 0, .int .i64 0, .int .i64 0, .int .i64 0, .int .i64 0, .int .i64 0, .int .i64 0, .int .i64 0, .int .i64 0, .int .i64 0, .slice none 0 0] 58)).alloc (.cells #[.int .i64 0, .int .i64 0, .int .i64 0, .int .i64 0, .int .i64 0, .int .i64 0, .int .i64 0, .int .i64 0, .int .i64 0, .int .i64 0, .int .i64 0, .int .i64 0, .int .i64 0, .slice none 0 0] 58) = w1 := ⟨_, rfl⟩
  have B1 := hid (show Below w.heap.size w w1 by rw [<- hw1]; exact ((Below.refl _ _).alloc (Nat.le_refl _) _).alloc (by simp) _)
  have HA := hid (show w1.heap[w.heap.size]? = some (.cells #[.int .i64 0, .int .i64 0, .int .i64 0, .int .i64 0, .int .i64 0, .int .i64 0, .int .i64 0, .int .i64 0, .int .i64 0, .int .i64 0, .int .i64 0, .int .i64 0, .int .i64 0, .slice none 0 0] 58 (0, 0)) by rw [<- hw1]; exact old_at (nB w _) _)
  have HB := hid (show w1.heap[w.heap.size + 1]? = some (.cells #[.int .i64 0, .int .i64 0, .int .i64 0, .int .i64 0, .int .i64 0, .int .i64 0, .int .i64 0, .int .i64 0, .int .i64 0, .int .i64 0, .int .i64 0, .int .i64 0, .int .i64 0, .slice none 0 0] 58 (0, 0)) by rw [<- hw1, <- heap_alloc_size w (.cells #[.int .i64 0, .int .i64 0, .int .i64 0, .int .i64 0, .int .i64 0, .int .i64 0, .int .i64 0, .int .i64 0, .int .i64 0, .int .i64 0, .int .i64 0, .int .i64 0, .int .i64 0, .slice none 0 0] 58)]; exact nB _ _)
  clear hm h hS
  go_enter Tryz.func248, Tryz.ntmps248
  go_wp2_with fail
  (try rw [hw1])
  clear hw1
  go_loopw [5, 6] (fun f i wr => ∃ k : Nat, k <= 2 /\ i = .int .i64 k /\ Below w.heap.size w wr /\ wr.heap[w.heap.size]? = some (.cells #[.int .i64 0, .int .i64 0, .int .i64 0, .int .i64 0, .int .i64 0, .int .i64 0, .int .i64 0, .int .i64 0, .int .i64 0, .int .i64 0, .int .i64 0, .int .i64 0, .int .i64 0, .slice none 0 0] 58 (0, 0)) /\ ((k < 2 /\ f = .bool false /\ wr.heap[w.heap.size + 1]? = some (.cells #[.int .i64 0, .int .i64 0, .int .i64 0, .int .i64 0, .int .i64 0, .int .i64 0, .int .i64 0, .int .i64 0, .int .i64 0, .int .i64 0, .int .i64 0, .int .i64 0, .int .i64 0, .slice none 0 0] 58 (0, 0))) \/ (k = 2 /\ f = .bool true /\ wr.heap[w.heap.size + 1]? = some (.cells #[.int .i64 1, .int .i64 1, .int .i64 0, .int .i64 1, .int .i64 0, .int .i64 l.id, .int .i64 l.ver, .int .i64 l.rs, .int .i64 l.rg, .int .i64 0, .int .i64 0, .int .i64 0, .int .i64 0, .slice none 0 0] 58 (0, 0))))) (fun _ i _ => 2 - (intOf i).toNat)
  case atStart => exact ⟨0, by omega, rfl, B1.out, HA.out, .inl ⟨by omega, rfl, HB.out⟩⟩
  case round =>
    obtain ⟨k, hk, rfl, hb, ha, hor⟩ := hrel
    have BK := hid hb
    have AK := hid ha
    rcases hor with ⟨hk2, rfl, hbb⟩ | ⟨rfl, rfl, hbb⟩
    · have BB := hid hbb
      have hbl := lB hbb
      have hcase : k = 0 \/ k = 1 := by omega
      rcases hcase with rfl | rfl
      · clear hb ha hbb hk hk2
        go_wp2_with fail
        with_reducible refine (D0.out _ BK.out).mono ?_
        rintro e w4 ⟨rfl, hb4⟩
        have B4 := hid (tB BK.out hb4)
        have A4 := hid (bel_old hb4 AK.out)
        have BB4 := hid (bel_old hb4 BB.out)
        clear hb4
        go_wp2_with fail
        go_roundw
        case rel => exact ⟨1, by omega, rfl, B4.out.alloc B4.out.size _, old_at A4.out _, .inl ⟨by omega, rfl, old_at BB4.out _⟩⟩
        case measure => simp [intOf]
      · clear hb ha hbb hk hk2
        go_wp2_with fail
        with_reducible refine (D1.out _ BK.out).mono ?_
        rintro e w4 ⟨rfl, hb4⟩
        have B4 := hid (tB BK.out hb4)
        have A4 := hid (bel_old hb4 AK.out)
        have BB4 := hid (bel_old hb4 BB.out)
        have BB5 := hid (fun (o : Obj) => old_at BB4.out o)
        have YY := hid (fun (o : Obj) => lB (BB5.out o))
        have hl4 := lB BB4.out
        clear hb4
        have z0 := qB (i := 0) BB4.out
        have y0 := zB (i := 0) BB4.out
        have z1 := qB (i := 1) BB4.out
        have y1 := zB (i := 1) BB4.out
        have z2 := qB (i := 2) BB4.out
        have y2 := zB (i := 2) BB4.out
        have z3 := qB (i := 3) BB4.out
        have y3 := zB (i := 3) BB4.out
        have z4 := qB (i := 4) BB4.out
        have y4 := zB (i := 4) BB4.out
        have z5 := qB (i := 5) BB4.out
        have y5 := zB (i := 5) BB4.out
        have z6 := qB (i := 6) BB4.out
        have y6 := zB (i := 6) BB4.out
        have z7 := qB (i := 7) BB4.out
        have y7 := zB (i := 7) BB4.out
        have z8 := qB (i := 8) BB4.out
        have y8 := zB (i := 8) BB4.out
        have z9 := qB (i := 9) BB4.out
        have y9 := zB (i := 9) BB4.out
        have z10 := qB (i := 10) BB4.out
        have y10 := zB (i := 10) BB4.out
        have z11 := qB (i := 11) BB4.out
        have y11 := zB (i := 11) BB4.out
        have z12 := qB (i := 12) BB4.out
        have y12 := zB (i := 12) BB4.out
        have z13 := qB (i := 13) BB4.out
        have y13 := zB (i := 13) BB4.out
        go_wp2_with fail
        go_roundw
        case rel =>
          have S14 := set14 BB4.out (.int .i64 1) (.int .i64 1) (.int .i64 0) (.int .i64 1) (.int .i64 0) (.int .i64 l.id) (.int .i64 l.ver) (.int .i64 l.rs) (.int .i64 l.rg) (.int .i64 0) (.int .i64 0) (.int .i64 0) (.int .i64 0) (.slice none 0 0)
          exact ⟨2, by omega, rfl, (bel_set14 B4.out (by omega)).alloc (Nat.le_trans B4.out.size S14.2.size) _, old_at ((S14.2.block _ (lB A4.out) (by omega)).trans A4.out) _, .inr ⟨rfl, rfl, old_at S14.1 _⟩⟩
        case measure => simp [intOf]
    · have BB := hid hbb
      have hbl := lB hbb
      have hal := lB ha
      clear hb ha hbb hk
      have z0 := qB (i := 0) AK.out
      have y0 := zB (i := 0) AK.out
      have z1 := qB (i := 1) AK.out
      have y1 := zB (i := 1) AK.out
      have z2 := qB (i := 2) AK.out
      have y2 := zB (i := 2) AK.out
      have z3 := qB (i := 3) AK.out
      have y3 := zB (i := 3) AK.out
      have z4 := qB (i := 4) AK.out
      have y4 := zB (i := 4) AK.out
      have z5 := qB (i := 5) AK.out
      have y5 := zB (i := 5) AK.out
      have z6 := qB (i := 6) AK.out
      have y6 := zB (i := 6) AK.out
      have z7 := qB (i := 7) AK.out
      have y7 := zB (i := 7) AK.out
      have z8 := qB (i := 8) AK.out
      have y8 := zB (i := 8) AK.out
      have z9 := qB (i := 9) AK.out
      have y9 := zB (i := 9) AK.out
      have z10 := qB (i := 10) AK.out
      have y10 := zB (i := 10) AK.out
      have z11 := qB (i := 11) AK.out
      have y11 := zB (i := 11) AK.out
      have z12 := qB (i := 12) AK.out
      have y12 := zB (i := 12) AK.out
      have z13 := qB (i := 13) AK.out
      have y13 := zB (i := 13) AK.out
      have c0 := qB (i := 0) BB.out
      have c1 := qB (i := 1) BB.out
      have c2 := qB (i := 2) BB.out
      have c3 := qB (i := 3) BB.out
      have c4 := qB (i := 4) BB.out
      have c5 := qB (i := 5) BB.out
      have c6 := qB (i := 6) BB.out
      have c7 := qB (i := 7) BB.out
      have c8 := qB (i := 8) BB.out
      have c9 := qB (i := 9) BB.out
      have c10 := qB (i := 10) BB.out
      have c11 := qB (i := 11) BB.out
      have c12 := qB (i := 12) BB.out
      have c13 := qB (i := 13) BB.out
      go_wp2_with (with_reducible refine bodyPost_ret (results_cell2 rfl _ _ w.heap.size _ _ _ _ rfl (set14 AK.out _ _ _ _ _ _ _ _ _ _ _ _ _ _).1 Tryz.underlying58 rfl (by kernel_rfl)) rfl ?_; exact ⟨rfl, bel_set14 BK.out (Nat.le_refl _)⟩)
theorem rhdecZ (sector : Int) (a : Option Addr) (c : Nat) (w : World) (h : Rd8 w a 64 c (List.replicate 64 0)) (t0 : 0 <= sector) (t1 : sector < 1048576) :
    Calls prog 33 #[.slice a 64 c, .int .i64 sector] w fun e w' => e = .returned (.tuple #[.agg #[.int .i64 0, .int .i64 0, .int .i64 0, .int .i64 0, .int .i64 0, .int .i64 0], .bool false]) /\ Below w.heap.size w w' := by
  have DE := fun (W : World) (hW : Below w.heap.size w W) => rfdec8 1 0 sector a c _ W (h.below hW (Nat.le_refl _)) (by omega) (by omega) (by omega) (by omega) t0 t1
  rw [frameD_zero] at DE
  have DE := hid DE
  clear h
  go_enter Tryz.func33, Tryz.ntmps33
  go_wp2_with fail
  with_reducible refine (DE.out _ ((Below.refl _ _).alloc (Nat.le_refl _) _)).mono ?_
  rintro e w2 ⟨hr, hb2⟩
  obtain rfl : e = .returned (.tuple #[.slice none 0 0, .bool false]) := hr
  have B2 := hid (bel1 hb2)
  have HK := hid (bel1n hb2)
  have hl2 := lB HK.out
  clear hb2
  have z0 := qB (i := 0) HK.out
  have y0 := zB (i := 0) HK.out
  have z1 := qB (i := 1) HK.out
  have y1 := zB (i := 1) HK.out
  have z2 := qB (i := 2) HK.out
  have y2 := zB (i := 2) HK.out
  have z3 := qB (i := 3) HK.out
  have y3 := zB (i := 3) HK.out
  have z4 := qB (i := 4) HK.out
  have y4 := zB (i := 4) HK.out
  have z5 := qB (i := 5) HK.out
  have y5 := zB (i := 5) HK.out
  go_wp2_with (with_reducible refine bodyPost_ret (results_cell2 rfl _ _ w.heap.size _ _ _ _ rfl (set6 HK.out _ _ _ _ _ _) Tryz.underlying66 rfl (by kernel_rfl)) rfl ?_; exact ⟨rfl, (sB (sB (sB (sB (sB (sB B2.out (Nat.le_refl _)) (Nat.le_refl _)) (Nat.le_refl _)) (Nat.le_refl _)) (Nat.le_refl _)) (Nat.le_refl _))⟩)
theorem rsector8 (s n : Nat) (a : Option Addr) (c : Nat) (w : World) (hs : s < n) (hc : 64 * n <= c) (hn : n <= 1000) :
    Calls prog 312 #[.slice a (64 * n) c, .int .i64 (s : Int)] w fun e w' => e = .returned (.slice (lowA a c (64 * s)) 64 (c - 64 * s)) /\ w' = w := by
  have sl := fun W => slice_mid' a (64 * n) c ((s : Int) * 64) ((s : Int) * 64 + 64) (64 * s) (64 * s + 64) 64 (c - 64 * s) (by omega) (by omega) (by omega) (by omega) (by omega) rfl W
  have SL := hid sl
  have h1 : ¬ (s : Int) < 0 := by omega
  have h2 : ¬ (64 * n : Nat) < (s : Int) * 64 + 64 := by omega
  clear sl
  go_enter Tryz.func312, Tryz.ntmps312
  have sl := SL.out
  go_wp2_with fail
  go_ret
  exact ⟨rfl, rfl⟩
theorem bel_set6 {w w1 : World} {B b : Nat} {y0 y1 y2 y3 y4 y5 : Value} (h : Below B w w1) (hb : B <= b) : Below B w ((((((w1.setCell ⟨b, 0, none⟩ y0).setCell ⟨b, 1, none⟩ y1).setCell ⟨b, 2, none⟩ y2).setCell ⟨b, 3, none⟩ y3).setCell ⟨b, 4, none⟩ y4).setCell ⟨b, 5, none⟩ y5) := (sB (sB (sB (sB (sB (sB h hb) hb) hb) hb) hb) hb)
theorem rheadZ (l : Lay) (S : List (List Int)) (i s : Nat) (a : Option Addr) (c : Nat) (w : World) (h : Rd8 w a (64 * S.length) c S.flatten) (hS : SecOk S) (hl : formB l = true) (hi : (i : Int) < l.rg) (hs : (s : Int) = 74 + (i : Int) * l.rs) (hz : S[s]? = some (List.replicate 64 0)) (h1 : S.length <= 1000) :
    Calls prog 303 #[.slice a (64 * S.length) c, .agg #[.int .i64 l.id, .int .i64 l.ver, .int .i64 l.rs, .int .i64 l.rg], .int .i64 (i : Int)] w fun e w' => e = .returned (.tuple #[.agg #[.int .i64 0, .int .i64 0, .int .i64 0, .int .i64 0, .int .i64 0, .int .i64 0], .bool false]) /\ Below w.heap.size w w' := by
  have hsl : s < S.length := (List.getElem?_eq_some_iff.1 hz).1
  have hc := h.cap_le
  have HM : Rd8 w (lowA a c (64 * s)) 64 (c - 64 * s) (List.replicate 64 0) := by
    have hm := h.mid (64 * s) 64 (by omega)
    rw [flat64_sec hS s hz] at hm
    exact hm
  have HD := hid (fun (W : World) (hW : Below w.heap.size w W) => rhdecZ (s : Int) _ _ W (HM.below hW (Nat.le_refl _)) (by omega) (by omega))
  have SE := hid (fun (W : World) => rsector8 s S.length a c W hsl (by omega) h1)
  have SC := sectors9 l.id l.ver l.rs l.rg (i : Int)
  have hsc : sectorsL l (i : Int) = (List.range l.rs.toNat).map (fun k : Nat => 74 + (i : Int) * l.rs + (k : Int)) := by unfold sectorsL; rw [if_pos ⟨hl, by omega, hi⟩]
  obtain ⟨_, _, r1, r2, _, _⟩ := formB_rng hl
  obtain ⟨xs, hxs⟩ : ∃ xs, sectorsL l (i : Int) = xs := ⟨_, rfl⟩
  have hln : 2 <= xs.length := by rw [<- hxs, hsc]; simp; omega
  have h0 : xs[0]?.getD 0 = (s : Int) := by
    rw [<- hxs, hsc, List.getElem?_map, List.getElem?_range (by omega), hs]; simp
  rw [show (⟨l.id, l.ver, l.rs, l.rg⟩ : Lay) = l from rfl, hxs] at SC
  have SC := hid SC
  obtain ⟨m, hm⟩ : ∃ m, xs.length = m := ⟨_, rfl⟩
  have HMm := hid hm
  have hm2 : 2 <= m := by omega
  have hmz : m ≠ 0 := by omega
  have H0 := hid h0
  clear hsc hxs h0 HM h hS hl hz hln hm hs
  go_enter Tryz.func303, Tryz.ntmps303
  go_wp2_with fail
  with_reducible refine (SC.out _).mono ?_
  rintro e w2 ⟨v2, rfl, ho2, hb2⟩
  have B2 := hid (bel2 hb2)
  obtain ⟨a2, c2, rfl, he2, hcl2, hcm2⟩ := ownsRow_elems ho2
  rw [HMm.out] at hcl2 he2 ⊢
  obtain ⟨g, off, rfl, hg, hcell⟩ := he2 0 (by omega)
  rw [H0.out] at hcell
  have HK := hid (show w2.heap[w.heap.size + 1]? = some (.cells #[.int .i64 0, .int .i64 0, .int .i64 0, .int .i64 0, .int .i64 0, .int .i64 0] 66 (0, 0)) from by
    rw [<- heap_alloc_size w (.cells #[.int .i64 l.id, .int .i64 l.ver, .int .i64 l.rs, .int .i64 l.rg] 26)]; exact bel1n hb2)
  have CK := hid (show ∀ W, Below w2.heap.size w2 W -> W.cell? ⟨g, off, none⟩ = some (.int .i64 (s : Int)) from fun W hW => ((bcell hW).1 _ _ hg).trans hcell)
  have KD := hid (CK.out w2.drew (Below.refl _ _).drew)
  have BA := hid (fun (o : Obj) => (show Below w2.heap.size w2 (w2.alloc o).drew from ((Below.refl _ _).alloc (Nat.le_refl _) _).drew))
  have KA := hid (fun o => CK.out _ (BA.out o))
  have HD1 := hid (HD.out w2.drew (tB B2.out (Below.refl _ _).drew))
  have HD2 := hid (fun (o : Obj) => HD.out (w2.alloc o).drew (tB B2.out (BA.out o)))
  have hl2 := lB HK.out
  clear ho2 hb2 he2 hcell HD
  have HI : ∀ W : World, (Instr.indexAt 266 (.slice (some ⟨g, off, none⟩) m c2) (.int .i64 0)).run prog W = .ok (.pointer (some ⟨g, off, none⟩)) W := by
    intro W
    go_simp
  go_upto_region 4 with fail
  go_cut [9, 10] (fun v9 v10 wx => ∃ xb, v9 = .pointer (some ⟨xb, 0, none⟩) /\ v10 = .bool false /\ wx.heap[xb]? = some (.cells #[.int .i64 0, .int .i64 0, .int .i64 0, .int .i64 0, .int .i64 0, .int .i64 0] 66 (0, 0)) /\ Below w2.heap.size w2 wx)
  case first =>
    go_region_held3 (fun w' => w'.cell? ⟨g, off, none⟩ = some (.int .i64 (s : Int))) (first | with_reducible exact KD.out | with_reducible exact KA.out _ | with_reducible exact hS3 | with_reducible exact hS3a _ | with_reducible exact CK.out _ (bel_set6 hB3 (Nat.le_refl _)))
      (first
        | ((go_at_call 312); (with_reducible refine (SE.out _).mono ?_); (rintro e w3 ⟨rfl, rfl⟩))
        | ((go_at_call 33); (first
            | ((with_reducible refine HD1.out.mono ?_); (rintro e x3 ⟨rfl, hb3⟩); (have hB3 := bidd hb3); (have hS3 := CK.out _ hB3); (have hS3a := fun (o : Obj) => CK.out _ (hB3.alloc hB3.size o)))
            | ((with_reducible refine (HD2.out _).mono ?_); (rintro e x3 ⟨rfl, hb3⟩); (have hB3 := tB (BA.out _) hb3); (have hS3 := CK.out _ hB3); (have hZ3 := bel1nd hb3); (obtain ⟨Y, hY, hF⟩ := blk_Y hZ3); (simp only [List.size_toArray, List.length_cons, List.length_nil, Nat.reduceAdd] at hY)))))
    all_goals
      go_wp2_with fail
      go_meet
      first
        | exact ⟨_, rfl, rfl, set6 hZ3 _ _ _ _ _ _, bel_set6 hB3 (Nat.le_refl _)⟩
        | exact ⟨_, rfl, rfl, nB x3 _, hB3.alloc hB3.size _⟩
  case rest =>
    obtain ⟨xb, rfl, rfl, hxb, hbx⟩ := hcut
    have B3 := hid (tB B2.out hbx)
    have HZ3 := hid (bel_old hbx HK.out)
    have hl3 := lB HZ3.out
    clear hxb hbx
    have z0 := qB (i := 0) HZ3.out
    have y0 := zB (i := 0) HZ3.out
    have z1 := qB (i := 1) HZ3.out
    have y1 := zB (i := 1) HZ3.out
    have z2 := qB (i := 2) HZ3.out
    have y2 := zB (i := 2) HZ3.out
    have z3 := qB (i := 3) HZ3.out
    have y3 := zB (i := 3) HZ3.out
    have z4 := qB (i := 4) HZ3.out
    have y4 := zB (i := 4) HZ3.out
    have z5 := qB (i := 5) HZ3.out
    have y5 := zB (i := 5) HZ3.out
    go_wp2_with (with_reducible refine bodyPost_ret (results_cell2 rfl _ _ (w.heap.size + 1) _ _ _ _ rfl (set6 HZ3.out _ _ _ _ _ _) Tryz.underlying66 rfl (by kernel_rfl)) rfl ?_; exact ⟨rfl, (sB (sB (sB (sB (sB (sB B3.out (by omega)) (by omega)) (by omega)) (by omega)) (by omega)) (by omega))⟩)
def Lay1 (w : World) (v : Value) (l : Lay) : Prop := ∃ g c, v = .slice (some ⟨g, 0, none⟩) 1 c /\ g < w.heap.size /\ (w.cell? ⟨g, 0, none⟩ = some (.int .i64 l.id) /\ w.cell? ⟨g, 1, none⟩ = some (.int .i64 l.ver) /\ w.cell? ⟨g, 2, none⟩ = some (.int .i64 l.rs) /\ w.cell? ⟨g, 3, none⟩ = some (.int .i64 l.rg))
theorem rlays8 (l : Lay) (w : World) :
    Calls prog 249 #[.agg #[.int .i64 1, .int .i64 1, .int .i64 0, .int .i64 1, .int .i64 0, .int .i64 l.id, .int .i64 l.ver, .int .i64 l.rs, .int .i64 l.rg, .int .i64 0, .int .i64 0, .int .i64 0, .int .i64 0, .slice none 0 0]] w fun e w' => (∃ v, e = .returned v /\ Lay1 w' v l) /\ Below w.heap.size w w' := by
  go_enter Tryz.func249, Tryz.ntmps249
  go_wp2_with fail
  go_ret
  have hat : ((w.alloc (.cells #[.int .i64 1, .int .i64 1, .int .i64 0, .int .i64 1, .int .i64 0, .int .i64 l.id, .int .i64 l.ver, .int .i64 l.rs, .int .i64 l.rg, .int .i64 0, .int .i64 0, .int .i64 0, .int .i64 0, .slice none 0 0] 58)).alloc (.cells #[.int .i64 l.id, .int .i64 l.ver, .int .i64 l.rs, .int .i64 l.rg] 26)).heap[w.heap.size + 1]? = some (.cells #[.int .i64 l.id, .int .i64 l.ver, .int .i64 l.rs, .int .i64 l.rg] 26 (0, 0)) := by
    rw [<- heap_alloc_size w (.cells #[.int .i64 1, .int .i64 1, .int .i64 0, .int .i64 1, .int .i64 0, .int .i64 l.id, .int .i64 l.ver, .int .i64 l.rs, .int .i64 l.rg, .int .i64 0, .int .i64 0, .int .i64 0, .int .i64 0, .slice none 0 0] 58)]; exact nB _ _
  exact ⟨⟨_, rfl, w.heap.size + 1, 1, rfl, lB hat, qB (i := 0) hat, qB (i := 1) hat, qB (i := 2) hat, qB (i := 3) hat⟩, ((Below.refl _ _).alloc (Nat.le_refl _) _).alloc (by simp) _⟩
theorem rfits8 (l : Lay) (n : Nat) (w : World) (hl : formB l = true) (hf : 74 + l.rg * l.rs <= (n : Int)) (hn : n <= 1000) :
    Calls prog 250 #[.agg #[.int .i64 l.id, .int .i64 l.ver, .int .i64 l.rs, .int .i64 l.rg], .int .i64 (n : Int)] w fun e w' => e = .returned (.bool true) /\ Below w.heap.size w w' := by
  have FO := fun W => refform12 l.id l.ver l.rs l.rg W
  have hl' : formB ⟨l.id, l.ver, l.rs, l.rg⟩ = true := hl
  rw [hl'] at FO
  have FO := hid FO
  obtain ⟨_, _, r1, r2, _, _⟩ := formB_rng hl
  have hm0 : 0 <= l.rg * l.rs := by
    have hf2 := hl
    unfold formB at hf2
    rw [decide_eq_true_eq] at hf2
    exact Int.mul_nonneg (by omega) (by omega)
  clear hl hl'
  go_enter Tryz.func250, Tryz.ntmps250
  go_wp2_with fail
  with_reducible refine (FO.out _).mono ?_
  rintro e w2 ⟨rfl, hb2⟩
  have B2 := hid (bel1 hb2)
  have HK := hid (bel1n hb2)
  have hl2 := lB HK.out
  have c2 := qB (i := 2) HK.out
  have c3 := qB (i := 3) HK.out
  clear hb2
  go_wp2_with fail
  go_ret
  exact ⟨rfl, B2.out⟩
theorem rcand8 (l : Lay) (n : Nat) (a : Option Addr) (c : Nat) (w : World) (h : Rd8 w a (64 * n) c (secs0 rF n l).flatten) (hS : SecOk (secs0 rF n l)) (hl : formB l = true) (hf : 74 + l.rg * l.rs <= (n : Int)) (h1 : n <= 1000) :
    Calls prog 251 #[.slice a (64 * n) c, .agg #[.int .i64 1, .int .i64 1, .int .i64 0, .int .i64 1, .int .i64 0, .int .i64 l.id, .int .i64 l.ver, .int .i64 l.rs, .int .i64 l.rg, .int .i64 0, .int .i64 0, .int .i64 0, .int .i64 0, .slice none 0 0]] w fun e w' => e = .returned (.slice none 0 0) /\ Below w.heap.size w w' := by
  obtain ⟨_, _, r1, r2, _, _⟩ := formB_rng hl
  have hf2 := hl
  unfold formB at hf2
  rw [decide_eq_true_eq] at hf2
  obtain ⟨gg, hgg⟩ := Int.eq_ofNat_of_zero_le (show 0 <= l.rg by omega)
  have hgg2 : gg <= 16 := by omega
  have HD := hid (show ∀ (W : World) (i : Nat), Below w.heap.size w W -> i < gg -> Calls prog 303 #[.slice a (64 * n) c, .agg #[.int .i64 l.id, .int .i64 l.ver, .int .i64 l.rs, .int .i64 l.rg], .int .i64 (i : Int)] W fun e w' => e = .returned (.tuple #[.agg #[.int .i64 0, .int .i64 0, .int .i64 0, .int .i64 0, .int .i64 0, .int .i64 0], .bool false]) /\ Below W.heap.size W w' from fun W i hW hi => by
    have hsec : 74 + (i : Int) * l.rs < (n : Int) := by
      have : ((i : Int) + 1) * l.rs <= l.rg * l.rs := Int.mul_le_mul_of_nonneg_right (by omega) (by omega)
      rw [Int.add_mul] at this
      omega
    have h0 : 0 <= (i : Int) * l.rs := Int.mul_nonneg (by omega) (by omega)
    obtain ⟨sn, hsn⟩ := Int.eq_ofNat_of_zero_le (show 0 <= 74 + (i : Int) * l.rs by omega)
    have := rheadZ l (secs0 rF n l) i sn a c W (by rw [secs0_length]; exact h.below hW (Nat.le_refl _)) hS hl (by omega) hsn.symm (secs0_get rF n l sn (by omega) (by omega)) (by rw [secs0_length]; exact h1)
    rw [secs0_length] at this
    exact this)
  have LA := hid (fun W => rlays8 l W)
  have HG := hid hgg
  clear h hS hl hf hf2 hgg
  go_enter Tryz.func251, Tryz.ntmps251
  go_wp2_with fail
  with_reducible refine (LA.out _).mono ?_
  rintro e w1 ⟨⟨v1, rfl, hv1⟩, hb1⟩
  obtain ⟨g, c1, rfl, hg, k0, k1, k2, k3⟩ := hv1
  have B1 := hid (bel1 hb1)
  have CK := hid (show ∀ W, Below w1.heap.size w1 W -> W.cell? ⟨g, 0, none⟩ = some (.int .i64 l.id) /\ W.cell? ⟨g, 1, none⟩ = some (.int .i64 l.ver) /\ W.cell? ⟨g, 2, none⟩ = some (.int .i64 l.rs) /\ W.cell? ⟨g, 3, none⟩ = some (.int .i64 l.rg) from fun W hW => ⟨((bcell hW).1 _ _ hg).trans k0, ((bcell hW).1 _ _ hg).trans k1, ((bcell hW).1 _ _ hg).trans k2, ((bcell hW).1 _ _ hg).trans k3⟩)
  clear hb1 k0 k1 k2 k3
  go_wp2_with fail
  go_loopw [5, 14] (fun v i wr => ∃ k : Nat, k <= 1 /\ i = .int .i64 k /\ v = .slice none 0 0 /\ Below w1.heap.size w1 wr) (fun _ i _ => 1 - (intOf i).toNat)
  case atStart => exact ⟨0, by omega, rfl, rfl, Below.refl _ _⟩
  case round =>
    obtain ⟨k, hk, rfl, rfl, hb⟩ := hrel
    have BK := hid hb
    obtain ⟨k0, k1, k2, k3⟩ := CK.out _ hb
    have hgl : g < wr.heap.size := Nat.lt_of_lt_of_le hg hb.size
    have hcase : k = 0 \/ k = 1 := by omega
    rcases hcase with rfl | rfl
    · clear hb hk
      go_wp2_with fail
      go_loopw [5, 8] (fun v i wx => ∃ j : Nat, j <= gg /\ i = .int .i64 j /\ v = .slice none 0 0 /\ wx.heap[wr.heap.size]? = some (.cells #[.int .i64 l.id, .int .i64 l.ver, .int .i64 l.rs, .int .i64 l.rg] 26 (0, 0)) /\ Below wr.heap.size wr wx) (fun _ i _ => gg - (intOf i).toNat)
      case atStart => exact ⟨0, by omega, rfl, rfl, nB _ _, (Below.refl _ _).alloc (Nat.le_refl _) _⟩
      case round =>
        obtain ⟨j, hj, rfl, rfl, ha, hb⟩ := hrel
        have AJ := hid ha
        have BJ := hid hb
        have hal := lB ha
        have q0 := qB (i := 0) ha
        have q1 := qB (i := 1) ha
        have q2 := qB (i := 2) ha
        have q3 := qB (i := 3) ha
        clear ha hb
        by_cases hlt : j < gg
        · have hjl : (j : Int) < l.rg := by have := HG.out; omega
          go_wp2_with fail
          with_reducible refine (HD.out _ j (tB B1.out (tB BK.out BJ.out)) hlt).mono ?_
          rintro e w4 ⟨rfl, hb4⟩
          have A4 := hid (bel_old hb4 AJ.out)
          have B4 := hid (tB BJ.out hb4)
          clear hb4
          go_wp2_with fail
          go_roundw
          case rel =>
            refine ⟨_, _, _, _, _, _, _, _, _, _, _, _, _, _, _, _, _, _, _, _, _, _, _, _, ?_, rfl⟩
            exact ⟨j + 1, by omega, by go_num, rfl, old_at A4.out _, B4.out.alloc B4.out.size _⟩
          case measure => simp [intOf]; omega
        · have hjl : ¬ (j : Int) < l.rg := by have := HG.out; omega
          go_wp2_with fail
          go_roundw
          case rel => exact ⟨1, by omega, rfl, rfl, tB BK.out BJ.out⟩
          case measure => simp [intOf]
    · clear hb hk
      go_wp2_with fail
      go_ret
      exact ⟨rfl, tB B1.out BK.out⟩
end Go.Proofs.YtbikkioipamlmaaGreatDoor
