/-
  Laws and contracts for the statement TopExpired.
-/
import Derived.Test.YtbikkioipamlmaaGreatDoorX34
open Go.Lib (hid)
open Go.Proofs.Tryz (prog)
set_option linter.unusedVariables false
set_option linter.unusedSimpArgs false
set_option maxRecDepth 100000
set_option maxHeartbeats 20000000
namespace Go.Proofs.YtbikkioipamlmaaGreatDoor
open Go.RowKit
def supL (x0 x1 x2 x3 : Int) (l : Lay) : List Int := [0, 0, 0, 0, 1, 1, 0, 0, 0, 0, 0, 0, 0, 0, 0, 1, 0, 0, 0, 0, 0, x0, x1, x2, x3, l.ver, logE l.rs, l.rg, 0, 0, 0, 0, 0, 0, 0, 0, 0, 0, 0, 0, 0, 0, 0, 0, 0, 0, 0, 0, 0, 0, 0, 0, 0, 0, 0, 0, 0, 0, 0]
theorem sup_bytes {l : Lay} (hl : formB l = true) (sector : Int) (t0 : 0 <= sector) (t1 : sector < 1048576) : ∃ x0 x1 x2 x3, beV [x0, x1, x2, x3] = l.id /\ frameD rF 3 0 sector (supE rF sector (sup0 l)) = some (supL x0 x1 x2 x3 l) := by
  obtain ⟨x0, x1, x2, x3, hx⟩ : ∃ x0 x1 x2 x3, beN l.id 4 = [x0, x1, x2, x3] := ⟨_, _, _, _, rfl⟩
  have hf := hl
  unfold formB at hf
  rw [decide_eq_true_eq] at hf
  refine ⟨x0, x1, x2, x3, by rw [<- hx, beV_beN]; omega, ?_⟩
  have hp : supP (sup0 l) = supA l ++ ([x0, x1, x2, x3] ++ [l.ver, logE l.rs, l.rg]) ++ layE lay0 ++ [0] := by
    rw [<- supA_P]
    have : layE l = [x0, x1, x2, x3] ++ [l.ver, logE l.rs, l.rg] := by
      unfold layE
      rw [hx, show l.ver % 256 = l.ver from by omega, show l.rg % 256 = l.rg from by omega]
    rw [this]
  have hlen : (supP (sup0 l)).length = 36 := by rw [hp]; simp [supA, bL, layE_length]
  unfold supE
  rw [frameD_E (by omega) ⟨by omega, by omega, by omega, t0, t1⟩, hlen, hp]
  congr 1
theorem sup_bytes0 {l : Lay} (hl : formB l = true) : 0 <= logE l.rs /\ logE l.rs <= 11 /\ (2 : Int) ^ (logE l.rs).toNat = l.rs := by
  have hf := hl
  unfold formB at hf
  rw [decide_eq_true_eq] at hf
  have h := logE_rng (.inl hf.2.2.2.1)
  have h2 := pow2_rng hf.2.2.2.1
  refine ⟨h.1, h.2.1, ?_⟩
  have h3 := h.2.2 (by omega)
  rw [show min (logE l.rs) 30 = logE l.rs from by omega] at h3
  exact h3
theorem rsdecZ (sector : Int) (a : Option Addr) (c : Nat) (b : List Int) (w : World) (h : Rd8 w a 64 c b) (hd : frameD rF 3 0 sector b = none) (t0 : 0 <= sector) (t1 : sector < 1048576) :
    Calls prog 301 #[.slice a 64 c, .int .i64 sector] w fun e w' => e = .returned (.tuple #[.agg #[.int .i64 0, .int .i64 0, .int .i64 0, .int .i64 0, .int .i64 0, .int .i64 0, .int .i64 0, .int .i64 0, .int .i64 0, .int .i64 0, .int .i64 0, .int .i64 0, .int .i64 0, .slice none 0 0], .bool false]) /\ Below w.heap.size w w' := by
  have DE := fun (W : World) (hW : Below w.heap.size w W) => rfdec8 3 0 sector a c b W (h.below hW (Nat.le_refl _)) (by omega) (by omega) (by omega) (by omega) t0 t1
  rw [hd] at DE
  have DE := hid DE
  clear h hd
  go_enter Tryz.func301, Tryz.ntmps301
  go_wp2_with fail
  with_reducible refine (DE.out _ ((Below.refl _ _).alloc (Nat.le_refl _) _)).mono ?_
  rintro e w2 ⟨hr, hb2⟩
  obtain rfl : e = .returned (.tuple #[.slice none 0 0, .bool false]) := hr
  have B2 := hid (bel1 hb2)
  have HK := hid (bel1n hb2)
  have hl2 := lB HK.out
  clear hb2
  have z0 := qB (i := 0) HK.out
  have y0 := zB (i := 0) HK.out
  have z1 := qB (i := 1) HK.out
  have y1 := zB (i := 1) HK.out
  have z2 := qB (i := 2) HK.out
  have y2 := zB (i := 2) HK.out
  have z3 := qB (i := 3) HK.out
  have y3 := zB (i := 3) HK.out
  have z4 := qB (i := 4) HK.out
  have y4 := zB (i := 4) HK.out
  have z5 := qB (i := 5) HK.out
  have y5 := zB (i := 5) HK.out
  have z6 := qB (i := 6) HK.out
  have y6 := zB (i := 6) HK.out
  have z7 := qB (i := 7) HK.out
  have y7 := zB (i := 7) HK.out
  have z8 := qB (i := 8) HK.out
  have y8 := zB (i := 8) HK.out
  have z9 := qB (i := 9) HK.out
  have y9 := zB (i := 9) HK.out
  have z10 := qB (i := 10) HK.out
  have y10 := zB (i := 10) HK.out
  have z11 := qB (i := 11) HK.out
  have y11 := zB (i := 11) HK.out
  have z12 := qB (i := 12) HK.out
  have y12 := zB (i := 12) HK.out
  have z13 := qB (i := 13) HK.out
  have y13 := zB (i := 13) HK.out
  go_wp2_with (with_reducible refine bodyPost_ret (results_cell2 rfl _ _ w.heap.size _ _ _ _ rfl (set14 HK.out _ _ _ _ _ _ _ _ _ _ _ _ _ _).1 Tryz.underlying58 rfl (by kernel_rfl)) rfl ?_; exact ⟨rfl, sB (sB (sB (sB (sB (sB (sB (sB (sB (sB (sB (sB (sB (sB B2.out (Nat.le_refl _)) (Nat.le_refl _)) (Nat.le_refl _)) (Nat.le_refl _)) (Nat.le_refl _)) (Nat.le_refl _)) (Nat.le_refl _)) (Nat.le_refl _)) (Nat.le_refl _)) (Nat.le_refl _)) (Nat.le_refl _)) (Nat.le_refl _)) (Nat.le_refl _)) (Nat.le_refl _)⟩)
theorem bel_set14 {w w1 : World} {B b : Nat} {y0 y1 y2 y3 y4 y5 y6 y7 y8 y9 y10 y11 y12 y13 : Value} (h : Below B w w1) (hb : B <= b) : Below B w ((((((((((((((w1.setCell ⟨b, 0, none⟩ y0).setCell ⟨b, 1, none⟩ y1).setCell ⟨b, 2, none⟩ y2).setCell ⟨b, 3, none⟩ y3).setCell ⟨b, 4, none⟩ y4).setCell ⟨b, 5, none⟩ y5).setCell ⟨b, 6, none⟩ y6).setCell ⟨b, 7, none⟩ y7).setCell ⟨b, 8, none⟩ y8).setCell ⟨b, 9, none⟩ y9).setCell ⟨b, 10, none⟩ y10).setCell ⟨b, 11, none⟩ y11).setCell ⟨b, 12, none⟩ y12).setCell ⟨b, 13, none⟩ y13) := (sB (sB (sB (sB (sB (sB (sB (sB (sB (sB (sB (sB (sB (sB h hb) hb) hb) hb) hb) hb) hb) hb) hb) hb) hb) hb) hb) hb)
theorem blk_Y {W : World} {B : Nat} {t : TypeId} {cs : Array Value} (h : W.heap[B]? = some (.cells cs t (0, 0))) : ∃ Y : Nat -> Value, (∀ i, i < cs.size -> W.cell? ⟨B, i, none⟩ = some (Y i)) /\ ∀ i, W.frozen? ⟨B, i, none⟩ = false :=
  ⟨fun i => (cs[i]?).getD undef, fun i hi => by rw [qB h]; simp [hi], fun i => zB h⟩
theorem bel_old {w w' : World} {g : Nat} {o : Obj} (hb : Below w.heap.size w w') (h : w.heap[g]? = some o) : w'.heap[g]? = some o := (hb.block g (lB h)).trans h
theorem rsdec8 (l : Lay) (sector : Int) (a : Option Addr) (c : Nat) (w : World) (h : Rd8 w a 64 c (supE rF sector (sup0 l))) (hl : formB l = true) (t0 : 0 <= sector) (t1 : sector < 1048576) :
    Calls prog 301 #[.slice a 64 c, .int .i64 sector] w fun e w' => e = .returned (.tuple #[.agg #[.int .i64 1, .int .i64 1, .int .i64 0, .int .i64 1, .int .i64 0, .int .i64 l.id, .int .i64 l.ver, .int .i64 l.rs, .int .i64 l.rg, .int .i64 0, .int .i64 0, .int .i64 0, .int .i64 0, .slice none 0 0], .bool true]) /\ Below w.heap.size w w' := by
  obtain ⟨x0, x1, x2, x3, h1d, hfd⟩ := sup_bytes hl sector t0 t1
  have hk := sup_bytes0 hl
  have hf := hl
  unfold formB at hf
  rw [decide_eq_true_eq] at hf
  have DE := fun (W : World) (hW : Below w.heap.size w W) => rfdec8 3 0 sector a c _ W (h.below hW (Nat.le_refl _)) (by omega) (by omega) (by omega) (by omega) t0 t1
  rw [hfd] at DE
  have DE := hid DE
  have H := hid h
  have HL := hid hl
  have VA := hid (fun W => rvalid8 l W hl)
  have EN := hid (fun W => rsenc8 l sector W hl t0 t1)
  clear h hfd hl
  go_enter Tryz.func301, Tryz.ntmps301
  go_wp2_with fail
  with_reducible refine (DE.out _ ((Below.refl _ _).alloc (Nat.le_refl _) _)).mono ?_
  rintro e w1 hr
  obtain ⟨⟨v1, rfl, ho⟩, hb1⟩ := (show (∃ v, e = .returned (.tuple #[v, .bool true]) /\ Own8 (w.alloc (.cells #[.int .i64 0, .int .i64 0, .int .i64 0, .int .i64 0, .int .i64 0, .int .i64 0, .int .i64 0, .int .i64 0, .int .i64 0, .int .i64 0, .int .i64 0, .int .i64 0, .int .i64 0, .slice none 0 0] 58)).heap.size w1 v (supL x0 x1 x2 x3 l)) /\ Below (w.alloc (.cells #[.int .i64 0, .int .i64 0, .int .i64 0, .int .i64 0, .int .i64 0, .int .i64 0, .int .i64 0, .int .i64 0, .int .i64 0, .int .i64 0, .int .i64 0, .int .i64 0, .int .i64 0, .slice none 0 0] 58)).heap.size (w.alloc (.cells #[.int .i64 0, .int .i64 0, .int .i64 0, .int .i64 0, .int .i64 0, .int .i64 0, .int .i64 0, .int .i64 0, .int .i64 0, .int .i64 0, .int .i64 0, .int .i64 0, .int .i64 0, .slice none 0 0] 58)) w1 from hr)
  have B1 := hid (bel1 hb1)
  have HZ := hid (bel1n hb1)
  obtain ⟨a1, c1, rfl, hr1⟩ := ho.rd
  rw [show (supL x0 x1 x2 x3 l).length = 59 from rfl] at hr1 ⊢
  obtain ⟨g, off, rfl, hg, e0⟩ := hr1.el 0 (by omega)
  have hc1 := hr1.cap_le
  have cell : ∀ j, j < 59 -> w1.cell? ⟨g, off + j, none⟩ = some (.int .u8 ((supL x0 x1 x2 x3 l)[j]?.getD 0)) := fun j hj => by
    obtain ⟨b', off', e, _, h2⟩ := hr1.el j hj
    cases e
    exact h2
  have c5 : w1.cell? ⟨g, off + 5, none⟩ = some (.int .u8 1) := cell 5 (by omega)
  have c35 : w1.cell? ⟨g, off + 35, none⟩ = some (.int .u8 0) := cell 35 (by omega)
  have CK := hid (show ∀ W, Below w1.heap.size w1 W -> W.cell? ⟨g, off + 5, none⟩ = some (.int .u8 1) /\ W.cell? ⟨g, off + 35, none⟩ = some (.int .u8 0) from fun W hW => ⟨((bcell hW).1 _ _ hg).trans c5, ((bcell hW).1 _ _ hg).trans c35⟩)
  have M1 : Rd8 w1 (some ⟨g, off, none⟩) 5 c1 [0, 0, 0, 0, 1] := hr1.take 5 (by omega) (fun e => by cases e)
  have M2 : Rd8 w1 (lowA (some ⟨g, off, none⟩) c1 6) 4 (c1 - 6) [0, 0, 0, 0] := hr1.mid 6 4 (by omega)
  have M3 : Rd8 w1 (lowA (some ⟨g, off, none⟩) c1 10) 6 (c1 - 10) [0, 0, 0, 0, 0, 1] := hr1.mid 10 6 (by omega)
  have M4 : Rd8 w1 (lowA (some ⟨g, off, none⟩) c1 16) 5 (c1 - 16) [0, 0, 0, 0, 0] := hr1.mid 16 5 (by omega)
  have M5 : Rd8 w1 (lowA (some ⟨g, off, none⟩) c1 21) 7 (c1 - 21) ([x0, x1, x2, x3] ++ [l.ver, logE l.rs, l.rg]) := hr1.mid 21 7 (by omega)
  have M6 : Rd8 w1 (lowA (some ⟨g, off, none⟩) c1 28) 7 (c1 - 28) (List.replicate 7 0) := hr1.mid 28 7 (by omega)
  have s1 := fun W => slice_hi (some ⟨g, off, none⟩) 59 c1 5 5 rfl (by omega) W
  have s2 := fun W => slice_mid' (some ⟨g, off, none⟩) 59 c1 6 10 6 10 4 (c1 - 6) rfl rfl (by omega) (by omega) rfl rfl W
  have s3 := fun W => slice_mid' (some ⟨g, off, none⟩) 59 c1 10 16 10 16 6 (c1 - 10) rfl rfl (by omega) (by omega) rfl rfl W
  have s4 := fun W => slice_mid' (some ⟨g, off, none⟩) 59 c1 16 21 16 21 5 (c1 - 16) rfl rfl (by omega) (by omega) rfl rfl W
  have s5 := fun W => slice_mid' (some ⟨g, off, none⟩) 59 c1 21 28 21 28 7 (c1 - 21) rfl rfl (by omega) (by omega) rfl rfl W
  have s6 := fun W => slice_mid' (some ⟨g, off, none⟩) 59 c1 28 35 28 35 7 (c1 - 28) rfl rfl (by omega) (by omega) rfl rfl W
  have N1 := hid (show ∀ W, Below w1.heap.size w1 W -> Calls prog 92 #[.slice (some ⟨g, off, none⟩) 5 c1] W fun e w' => e = .returned (.int .u64 1) /\ w' = W from fun W hW => rnum8 _ _ _ _ W (M1.below hW (Nat.le_refl _)) (by omega))
  have N2 := hid (show ∀ W, Below w1.heap.size w1 W -> Calls prog 92 #[.slice (lowA (some ⟨g, off, none⟩) c1 6) 4 (c1 - 6)] W fun e w' => e = .returned (.int .u64 0) /\ w' = W from fun W hW => rnum8 _ _ _ _ W (M2.below hW (Nat.le_refl _)) (by omega))
  have N3 := hid (show ∀ W, Below w1.heap.size w1 W -> Calls prog 92 #[.slice (lowA (some ⟨g, off, none⟩) c1 10) 6 (c1 - 10)] W fun e w' => e = .returned (.int .u64 1) /\ w' = W from fun W hW => rnum8 _ _ _ _ W (M3.below hW (Nat.le_refl _)) (by omega))
  have N4 := hid (show ∀ W, Below w1.heap.size w1 W -> Calls prog 92 #[.slice (lowA (some ⟨g, off, none⟩) c1 16) 5 (c1 - 16)] W fun e w' => e = .returned (.int .u64 0) /\ w' = W from fun W hW => rnum8 _ _ _ _ W (M4.below hW (Nat.le_refl _)) (by omega))
  have R5 := fun (W : World) (hW : Below w1.heap.size w1 W) => rlread8 _ _ [x0, x1, x2, x3] l.id l.ver (logE l.rs) l.rg W (M5.below hW (Nat.le_refl _)) rfl h1d (by omega) hk.1 hk.2.1
  rw [hk.2.2] at R5
  have R5 := hid R5
  have R6 := hid (fun (W : World) (hW : Below w1.heap.size w1 W) => rreadz _ _ W (M6.below hW (Nat.le_refl _)))
  have BD := hid (show Below w1.heap.size w1 w1.drew from (Below.refl _ _).drew)
  have BA := hid (fun (o : Obj) => (show Below w1.heap.size w1 (w1.alloc o).drew from ((Below.refl _ _).alloc (Nat.le_refl _) _).drew))
  have KD := hid (CK.out _ BD.out).1
  have KA := hid (fun o => (CK.out _ (BA.out o)).1)
  have hws : w.heap.size < w1.heap.size := lB HZ.out
  clear hb1 hr ho hr1 e0 cell c5 c35 M1 M2 M3 M4 M5 M6 h1d hk hf
  have q0 : IntKind.i64.wrap 0 = 0 := rfl
  have q1 : IntKind.i64.wrap 1 = 1 := rfl
  go_upto_region 4 with fail
  go_cut [8] (fun v8 wx => ∃ xb, v8 = .pointer (some ⟨xb, 0, none⟩) /\ wx.heap[xb]? = some (.cells #[.int .i64 1, .int .i64 1, .int .i64 0, .int .i64 1, .int .i64 0, .int .i64 l.id, .int .i64 l.ver, .int .i64 l.rs, .int .i64 l.rg, .int .i64 0, .int .i64 0, .int .i64 0, .int .i64 0, .slice none 0 0] 58 (0, 0)) /\ w1.heap.size <= xb /\ Below w1.heap.size w1 wx)
  case first =>
    go_region_held3 (fun w' => w'.cell? ⟨g, off + 5, none⟩ = some (.int .u8 1)) (first | with_reducible exact KD.out | with_reducible exact KA.out _ | with_reducible exact hS3 | with_reducible exact hS4 | with_reducible exact hS3a _ | with_reducible exact hS4a _ | with_reducible exact (CK.out _ (bel_set14 hB4 hge)).1)
      (first
        | ((go_at_call 92); (first
            | ((with_reducible refine (N1.out _ BD.out).mono ?_); (rintro e w2 ⟨rfl, rfl⟩))
            | ((with_reducible refine (N1.out _ (BA.out _)).mono ?_); (rintro e w2 ⟨rfl, rfl⟩))
            | ((with_reducible refine (N2.out _ BD.out).mono ?_); (rintro e w2 ⟨rfl, rfl⟩))
            | ((with_reducible refine (N2.out _ (BA.out _)).mono ?_); (rintro e w2 ⟨rfl, rfl⟩))
            | ((with_reducible refine (N3.out _ BD.out).mono ?_); (rintro e w2 ⟨rfl, rfl⟩))
            | ((with_reducible refine (N3.out _ (BA.out _)).mono ?_); (rintro e w2 ⟨rfl, rfl⟩))
            | ((with_reducible refine (N4.out _ BD.out).mono ?_); (rintro e w2 ⟨rfl, rfl⟩))
            | ((with_reducible refine (N4.out _ (BA.out _)).mono ?_); (rintro e w2 ⟨rfl, rfl⟩))))
        | ((go_at_call 345); (first
            | ((with_reducible refine (R6.out _ hB3).mono ?_); (rintro e x4 ⟨rfl, hb4⟩); (have hB4 := tB hB3 hb4); (have hS4 := (CK.out _ hB4).1); (have hS4a := fun (o : Obj) => (CK.out _ (hB4.alloc hB4.size o)).1); (first | ((have hZ4 := bel_old hb4 hZ3); (obtain ⟨Y, hY, hF⟩ := blk_Y hZ4); (simp only [List.size_toArray, List.length_cons, List.length_nil, Nat.reduceAdd] at hY)) | skip))
            | ((with_reducible refine (R6.out _ (hB3a _)).mono ?_); (rintro e x4 ⟨rfl, hb4⟩); (have hB4 := tB (hB3a _) hb4); (have hS4 := (CK.out _ hB4).1); (have hZ4 := bel1n hb4); (have hge := hB3.size); (obtain ⟨Y, hY, hF⟩ := blk_Y hZ4); (simp only [List.size_toArray, List.length_cons, List.length_nil, Nat.reduceAdd] at hY))
            | ((with_reducible refine (R5.out _ BD.out).mono ?_); (rintro e x3 ⟨rfl, hb3⟩); (have hB3 := bidd hb3); (have hS3 := (CK.out _ hB3).1); (have hB3a := fun (o : Obj) => hB3.alloc hB3.size o); (have hS3a := fun (o : Obj) => (CK.out _ (hB3a o)).1))
            | ((with_reducible refine (R5.out _ (BA.out _)).mono ?_); (rintro e x3 ⟨rfl, hb3⟩); (have hB3 := tB (BA.out _) hb3); (have hS3 := (CK.out _ hB3).1); (have hZ3 := bel1nd hb3); (have hge := Nat.le_refl w1.heap.size)))))
    all_goals
      go_wp2_with fail
      go_meet
      first
        | exact ⟨_, rfl, (set14 hZ4 _ _ _ _ _ _ _ _ _ _ _ _ _ _).1, hge, bel_set14 hB4 hge⟩
        | exact ⟨_, rfl, nB x4 _, hB4.size, hB4.alloc hB4.size _⟩
  case rest =>
    obtain ⟨xb, rfl, hxb, hge, hbx⟩ := hcut
    obtain ⟨wq, rfl⟩ : ∃ q, q = wc := ⟨_, rfl⟩
    have XB := hid hxb
    have BX := hid hbx
    have hxl := lB hxb
    have c35 := (CK.out _ hbx).2
    have HGE := hid hge
    clear hxb hbx hge N1 N2 N3 N4 R5 R6 BD BA KD KA q0 q1 s1 s2 s3 s4 s5 s6
    have d0 := qB (i := 0) XB.out
    have d1 := qB (i := 1) XB.out
    have d2 := qB (i := 2) XB.out
    have d3 := qB (i := 3) XB.out
    have d4 := qB (i := 4) XB.out
    have d5 := qB (i := 5) XB.out
    have d6 := qB (i := 6) XB.out
    have d7 := qB (i := 7) XB.out
    have d8 := qB (i := 8) XB.out
    have d9 := qB (i := 9) XB.out
    have d10 := qB (i := 10) XB.out
    have d11 := qB (i := 11) XB.out
    have d12 := qB (i := 12) XB.out
    have d13 := qB (i := 13) XB.out
    go_wp2_with fail
    with_reducible refine (VA.out _).mono ?_
    rintro e w5 ⟨rfl, hb5⟩
    have B5 := hid hb5
    have XB5 := hid (bel_old hb5 XB.out)
    have hxl5 := lB XB5.out
    clear hb5 d0 d1 d2 d3 d4 d5 d6 d7 d8 d9 d10 d11 d12 d13 c35
    have e0 := qB (i := 0) XB5.out
    have e1 := qB (i := 1) XB5.out
    have e2 := qB (i := 2) XB5.out
    have e3 := qB (i := 3) XB5.out
    have e4 := qB (i := 4) XB5.out
    have e5 := qB (i := 5) XB5.out
    have e6 := qB (i := 6) XB5.out
    have e7 := qB (i := 7) XB5.out
    have e8 := qB (i := 8) XB5.out
    have e9 := qB (i := 9) XB5.out
    have e10 := qB (i := 10) XB5.out
    have e11 := qB (i := 11) XB5.out
    have e12 := qB (i := 12) XB5.out
    have e13 := qB (i := 13) XB5.out
    go_wp2_with fail
    with_reducible refine (EN.out _).mono ?_
    rintro e w6 ⟨v6, rfl, ho6, hb6⟩
    have B6 := hid (tB B5.out hb6)
    have hl6 : (supE rF sector (sup0 l)).length = 64 := H.out.len
    obtain ⟨a6, c6, rfl, hr6⟩ := ho6.rd
    rw [hl6] at hr6 ⊢
    have BB6 := hid (tB B1.out (tB BX.out B6.out))
    have EQ := req8 a6 a 64 c6 64 c _ _ w6 hr6 (H.out.below BB6.out (Nat.le_refl _)) (by omega) (by omega)
    rw [decide_eq_true rfl] at EQ
    have EQ := hid EQ
    clear ho6 hb6 hl6 hr6 e0 e1 e2 e3 e4 e5 e6 e7 e8 e9 e10 e11 e12 e13
    go_wp2_with fail
    with_reducible refine EQ.out.mono ?_
    rintro e w7 ⟨rfl, hb7⟩
    have B7 := hid (tB B6.out hb7)
    have BB7 := hid (tB B1.out (tB BX.out B7.out))
    have XB7 := hid (bel_old B7.out XB.out)
    have HZ7 := hid (bel_old (tB BX.out B7.out) HZ.out)
    have hxl7 := lB XB7.out
    have hzl7 := lB HZ7.out
    clear hb7
    have f0 := qB (i := 0) XB7.out
    have f1 := qB (i := 1) XB7.out
    have f2 := qB (i := 2) XB7.out
    have f3 := qB (i := 3) XB7.out
    have f4 := qB (i := 4) XB7.out
    have f5 := qB (i := 5) XB7.out
    have f6 := qB (i := 6) XB7.out
    have f7 := qB (i := 7) XB7.out
    have f8 := qB (i := 8) XB7.out
    have f9 := qB (i := 9) XB7.out
    have f10 := qB (i := 10) XB7.out
    have f11 := qB (i := 11) XB7.out
    have f12 := qB (i := 12) XB7.out
    have f13 := qB (i := 13) XB7.out
    have z0 := qB (i := 0) HZ7.out
    have y0 := zB (i := 0) HZ7.out
    have z1 := qB (i := 1) HZ7.out
    have y1 := zB (i := 1) HZ7.out
    have z2 := qB (i := 2) HZ7.out
    have y2 := zB (i := 2) HZ7.out
    have z3 := qB (i := 3) HZ7.out
    have y3 := zB (i := 3) HZ7.out
    have z4 := qB (i := 4) HZ7.out
    have y4 := zB (i := 4) HZ7.out
    have z5 := qB (i := 5) HZ7.out
    have y5 := zB (i := 5) HZ7.out
    have z6 := qB (i := 6) HZ7.out
    have y6 := zB (i := 6) HZ7.out
    have z7 := qB (i := 7) HZ7.out
    have y7 := zB (i := 7) HZ7.out
    have z8 := qB (i := 8) HZ7.out
    have y8 := zB (i := 8) HZ7.out
    have z9 := qB (i := 9) HZ7.out
    have y9 := zB (i := 9) HZ7.out
    have z10 := qB (i := 10) HZ7.out
    have y10 := zB (i := 10) HZ7.out
    have z11 := qB (i := 11) HZ7.out
    have y11 := zB (i := 11) HZ7.out
    have z12 := qB (i := 12) HZ7.out
    have y12 := zB (i := 12) HZ7.out
    have z13 := qB (i := 13) HZ7.out
    have y13 := zB (i := 13) HZ7.out
    go_wp2_with (with_reducible refine bodyPost_ret (results_cell2 rfl _ _ w.heap.size _ _ _ _ rfl (set14 HZ7.out _ _ _ _ _ _ _ _ _ _ _ _ _ _).1 Tryz.underlying58 rfl (by kernel_rfl)) rfl ?_; exact ⟨rfl, bel_set14 BB7.out (Nat.le_refl _)⟩)
end Go.Proofs.YtbikkioipamlmaaGreatDoor
