/-
  Laws and contracts for the statement TopExpired.
-/
import Derived.Test.YtbikkioipamlmaaGreatDoorX06
import Derived.Test.YtbikkioipamlmaaGreatDoorX08
open Go.Lib (hid)
open Go.Proofs.Tryz (prog)
set_option linter.unusedVariables false
set_option linter.unusedSimpArgs false
set_option maxRecDepth 100000
set_option maxHeartbeats 20000000
namespace Go.Proofs.YtbikkioipamlmaaGreatDoor
open Go.RowKit
theorem snum8m {G : Nat} (rb b : Nat) (bs : List Int) (m : Nat) (w : World) (hc : w.cell? ⟨rb, 0, none⟩ = some (.pointer (some ⟨b, 0, none⟩))) (h : Rdr w b G bs) (hm : m <= bs.length) (m1 : 1 <= m) (m7 : m <= 7) :
    Calls prog 158 #[.int .i64 (m : Int), .pointer (some ⟨rb, 0, none⟩)] w fun e w' => e = .returned (.int .i64 (beV (bs.take m))) /\ Rdr w' b G (bs.drop m) /\ Fr (fun j => j = b) w w' := by
  have H := hid h
  clear h
  go_enter Tryz.func158, Tryz.ntmps158
  go_wp2_with fail
  with_reducible refine (num8w b bs m _ H.out hm m1 (by omega)).mono ?_
  rintro e w1 ⟨rfl, hd, hf⟩
  obtain ⟨a, cap, _, hr, _⟩ := H.out
  obtain ⟨q0, q1⟩ := beV_rng (hr.byt.take m)
  have hq : beV (bs.take m) < 9223372036854775808 := by
    refine Int.lt_of_lt_of_le q1 ?_
    rw [List.length_take, Nat.min_eq_left hm]
    exact Int.le_trans (pow7 m m7) (by decide)
  have D1 := hid hd
  have F1 := hid hf
  clear hd hf hr q1
  obtain ⟨q, hqe⟩ : ∃ q, beV (bs.take m) = q := ⟨_, rfl⟩
  rw [hqe] at q0 hq ⊢
  have HQ := hid hqe
  clear hqe
  have hw : wrap64 q = q := by unfold wrap64; omega
  go_wp2_with fail
  go_ret
  rw [HQ.out]
  exact ⟨rfl, D1.out, F1.out⟩
theorem snum8 {G : Nat} (rb b : Nat) (bs : List Int) (z : Int) (m : Nat) (w : World) (hc : w.cell? ⟨rb, 0, none⟩ = some (.pointer (some ⟨b, 0, none⟩))) (h : Rdr w b G bs) (hm : m <= bs.length) (m1 : 1 <= m) (m7 : m <= 7) (hz : z = (m : Int)) :
    Calls prog 158 #[.int .i64 z, .pointer (some ⟨rb, 0, none⟩)] w fun e w' => e = .returned (.int .i64 (beV (bs.take m))) /\ Rdr w' b G (bs.drop m) /\ Fr (fun j => j = b) w w' := by
  subst hz
  exact snum8m rb b bs m w hc h hm m1 m7
theorem num8v {G : Nat} (b : Nat) (p rest : List Int) (v z : Int) (m : Nat) (w : World) (h : Rdr w b G (p ++ rest)) (hp : p.length = m) (hv : beV p = v) (m1 : 1 <= m) (m8 : m <= 8) (hz : z = (m : Int)) :
    Calls prog 159 #[.pointer (some ⟨b, 0, none⟩), .int .i64 z] w fun e w' => e = .returned (.int .u64 v) /\ Rdr w' b G rest /\ Fr (fun j => j = b) w w' := by
  refine (num8z b (p ++ rest) z m w h (by simp; omega) m1 m8 hz).mono ?_
  rintro e w' ⟨rfl, h1, h2⟩
  rw [take_app hp] at *
  rw [drop_app hp] at h1
  rw [hv]
  exact ⟨rfl, h1, h2⟩
theorem snum8v {G : Nat} (rb b : Nat) (p rest : List Int) (v z : Int) (m : Nat) (w : World) (hc : w.cell? ⟨rb, 0, none⟩ = some (.pointer (some ⟨b, 0, none⟩))) (h : Rdr w b G (p ++ rest)) (hp : p.length = m) (hv : beV p = v) (m1 : 1 <= m) (m7 : m <= 7) (hz : z = (m : Int)) :
    Calls prog 158 #[.int .i64 z, .pointer (some ⟨rb, 0, none⟩)] w fun e w' => e = .returned (.int .i64 v) /\ Rdr w' b G rest /\ Fr (fun j => j = b) w w' := by
  refine (snum8 rb b (p ++ rest) z m w hc h (by simp; omega) m1 m7 hz).mono ?_
  rintro e w' ⟨rfl, h1, h2⟩
  rw [take_app hp] at *
  rw [drop_app hp] at h1
  rw [hv]
  exact ⟨rfl, h1, h2⟩
theorem set4 {w : World} {b : Nat} {x0 x1 x2 x3 : Value} {t : TypeId} (h : w.heap[b]? = some (.cells #[x0, x1, x2, x3] t (0, 0))) (y0 y1 y2 y3 : Value) :
    ((((w.setCell ⟨b, 0, none⟩ y0).setCell ⟨b, 1, none⟩ y1).setCell ⟨b, 2, none⟩ y2).setCell ⟨b, 3, none⟩ y3).heap[b]? = some (.cells #[y0, y1, y2, y3] t (0, 0)) :=
  uB (uB (uB (uB h y0) y1) y2) y3
theorem rlay8 {G : Nat} (b : Nat) (l : Lay) (rest : List Int) (w : World) (hf : formB l = true \/ l = lay0) (h : Rdr w b G (layE l ++ rest)) (hGl : G < w.heap.size) :
    Calls prog 160 #[.pointer (some ⟨b, 0, none⟩)] w fun e w' => e = .returned (.agg #[.int .i64 l.id, .int .i64 l.ver, .int .i64 l.rs, .int .i64 l.rg]) /\ Rdr w' b G rest /\ Fr (fun j => j = b) w w' := by
  have hlay : 0 <= l.id /\ l.id <= 4294967295 /\ 0 <= l.ver /\ l.ver <= 2 /\ (pow2B l.rs = true \/ l.rs = 0) /\ 0 <= l.rg /\ l.rg <= 16 /\ (l.id = 0 ↔ l.rs = 0) := by
    rcases hf with hf | rfl
    · obtain ⟨a, b, c, d, e, f⟩ := formB_pow hf
      have := pow2_rng d
      exact ⟨by omega, by omega, by omega, by omega, .inl d, by omega, by omega, by omega⟩
    · decide
  obtain ⟨i0, i1, v0, v1, hp, g0, g1, hiz⟩ := hlay
  obtain ⟨id, ver, rs, rg⟩ := l
  simp only at *
  obtain ⟨e0, e1, e2⟩ := logE_rng hp
  have hsp : layE ⟨id, ver, rs, rg⟩ ++ rest = beN id 4 ++ ([ver] ++ ([logE rs] ++ ([rg] ++ rest))) := by
    unfold layE
    simp only
    rw [show ver % 256 = ver by omega, show rg % 256 = rg by omega]
    simp
  rw [hsp] at h
  have H := hid h
  have one : ∀ x : Int, beV [x] = x := fun x => by simp [beV]
  have hidv : beV (beN id 4) = id := beV_self i0 (by omega)
  have hb0 : b < w.heap.size := h.lt
  clear h hsp
  have hwi : wrap64 id = id := by unfold wrap64; omega
  have hwv : wrap64 ver = ver := by unfold wrap64; omega
  have hwk : wrap64 (logE rs) = logE rs := by unfold wrap64; omega
  have hwg : wrap64 rg = rg := by unfold wrap64; omega
  obtain ⟨w0, hw0⟩ : ∃ w0, w.alloc (.cells #[.int .i64 0, .int .i64 0, .int .i64 0, .int .i64 0] 26) = w0 := ⟨_, rfl⟩
  have B0 := hid (show Below w.heap.size w w0 by rw [<- hw0]; exact (Below.refl _ _).alloc (Nat.le_refl _) _)
  have K0 := hid (show w0.heap[w.heap.size]? = some (.cells #[.int .i64 0, .int .i64 0, .int .i64 0, .int .i64 0] 26 (0, 0)) by rw [<- hw0]; exact nB w _)
  have hne0 : ¬ (w.heap.size = b) := by omega
  have hs0 : w.heap.size < w0.heap.size := lB K0.out
  have R0 := hid (H.out.below B0.out)
  have ID := hid hidv
  clear hidv
  go_enter Tryz.func160, Tryz.ntmps160
  go_wp2_with fail
  with_reducible refine (num8v b (beN id 4) _ id 4 4 _ R0.out (bL _ _) ID.out (by omega) (by omega) rfl).mono ?_
  rintro e x1 ⟨rfl, hd1, hf1⟩
  have R1 := hid hd1
  have F1 := hid hf1
  clear hd1 hf1
  go_wp2_with fail
  with_reducible refine (num8v b [ver] _ ver 1 1 _ R1.out rfl (one _) (by omega) (by omega) rfl).mono ?_
  rintro e x2 ⟨rfl, hd2, hf2⟩
  have F2 := hid (F1.out.trans hf2 (fun j hj => .inl hj))
  have hb2 : b < x2.heap.size := hd2.lt
  have BY := hid (show Below x2.heap.size x2 (x2.alloc (.cells #[.int .i64 id, .int .i64 ver, .int .i64 0, .int .i64 0] 26)) from (Below.refl _ _).alloc (Nat.le_refl _) _)
  have KY := hid (show (x2.alloc (.cells #[.int .i64 id, .int .i64 ver, .int .i64 0, .int .i64 0] 26)).heap[x2.heap.size]? = some (.cells #[.int .i64 id, .int .i64 ver, .int .i64 0, .int .i64 0] 26 (0, 0)) from nB x2 _)
  have hsy : x2.heap.size < (x2.alloc (.cells #[.int .i64 id, .int .i64 ver, .int .i64 0, .int .i64 0] 26)).heap.size := lB KY.out
  have hney : ¬ (x2.heap.size = b) := by omega
  have R2 := hid (hd2.below BY.out)
  have G2 := hid (F2.out.trans (.of_below (S := fun j => j = b) BY.out) (fun j hj => .inl hj))
  clear hd2 hf2
  go_wp2_with fail
  with_reducible refine (num8v b [logE rs] _ (logE rs) 1 1 _ R2.out rfl (one _) (by omega) (by omega) rfl).mono ?_
  rintro e x3 ⟨rfl, hd3, hf3⟩
  have R3 := hid hd3
  have F3 := hid hf3
  clear hd3 hf3
  go_wp2_with fail
  with_reducible refine (num8v b [rg] _ rg 1 1 _ R3.out rfl (one _) (by omega) (by omega) rfl).mono ?_
  rintro e x4 ⟨rfl, hd4, hf4⟩
  have F4 := hid (F3.out.trans hf4 (fun j hj => .inl hj))
  have G4 := hid (G2.out.trans F4.out (fun j hj => .inl hj))
  have R4 := hid hd4
  have KL := hid (show x4.heap[x2.heap.size]? = some (.cells #[.int .i64 id, .int .i64 ver, .int .i64 0, .int .i64 0] 26 (0, 0)) from (F4.out.block _ hsy hney).trans KY.out)
  have KR := hid (show x4.heap[w.heap.size]? = some (.cells #[.int .i64 0, .int .i64 0, .int .i64 0, .int .i64 0] 26 (0, 0)) from (G4.out.block _ hs0 hne0).trans K0.out)
  have l0 := qB (i := 0) KL.out; have l1 := qB (i := 1) KL.out; have l2 := qB (i := 2) KL.out; have l3 := qB (i := 3) KL.out
  have r0 := qB (i := 0) KR.out; have r1 := qB (i := 1) KR.out; have r2 := qB (i := 2) KR.out; have r3 := qB (i := 3) KR.out
  simp only [List.getElem?_toArray, List.getElem?_cons_zero, List.getElem?_cons_succ] at l0 l1 l2 l3 r0 r1 r2 r3
  have fl2 := zB (i := 2) KL.out; have fl3 := zB (i := 3) KL.out
  have fr0 := zB (i := 0) KR.out; have fr1 := zB (i := 1) KR.out; have fr2 := zB (i := 2) KR.out; have fr3 := zB (i := 3) KR.out
  have hsx : w.heap.size < x2.heap.size := Nat.lt_of_lt_of_le hs0 F2.out.size
  have hnx : ¬ (w.heap.size = x2.heap.size) := by omega
  clear hd4 hf4 hw0
  have FIN := hid (show ∀ (z : Int) (W : World), W.heap[w.heap.size]? = some (.cells #[.int .i64 0, .int .i64 0, .int .i64 0, .int .i64 0] 26 (0, 0)) -> Fr (fun j => j = x2.heap.size) x4 W -> z = rs ->
      ((((W.setCell ⟨w.heap.size, 0, none⟩ (.int .i64 id)).setCell ⟨w.heap.size, 1, none⟩ (.int .i64 ver)).setCell ⟨w.heap.size, 2, none⟩ (.int .i64 z)).setCell ⟨w.heap.size, 3, none⟩ (.int .i64 rg)).heap[w.heap.size]? = some (.cells #[.int .i64 id, .int .i64 ver, .int .i64 rs, .int .i64 rg] 26 (0, 0)) /\
      Rdr ((((W.setCell ⟨w.heap.size, 0, none⟩ (.int .i64 id)).setCell ⟨w.heap.size, 1, none⟩ (.int .i64 ver)).setCell ⟨w.heap.size, 2, none⟩ (.int .i64 z)).setCell ⟨w.heap.size, 3, none⟩ (.int .i64 rg)) b G rest /\
      Fr (fun j => j = b) w ((((W.setCell ⟨w.heap.size, 0, none⟩ (.int .i64 id)).setCell ⟨w.heap.size, 1, none⟩ (.int .i64 ver)).setCell ⟨w.heap.size, 2, none⟩ (.int .i64 z)).setCell ⟨w.heap.size, 3, none⟩ (.int .i64 rg)) by
    intro z W hW hfw hz
    replace hz := hz.symm
    subst hz
    have f1 := (((fS W w.heap.size 0 (.int .i64 id)).trans (fS _ w.heap.size 1 (.int .i64 ver)) (fun j hj => .inl hj)).trans (fS _ w.heap.size 2 (.int .i64 rs)) (fun j hj => .inl hj)).trans (fS _ w.heap.size 3 (.int .i64 rg)) (fun j hj => .inl hj)
    refine ⟨set4 hW _ _ _ _, (R4.out.fr hfw (fun (e : b = x2.heap.size) => hney e.symm) (fun (e : G = x2.heap.size) => by omega)).fr f1 (fun (e : b = w.heap.size) => hne0 e.symm) (fun (e : G = w.heap.size) => by omega), ?_⟩
    have f2 : Fr (fun j => j = b \/ j = x2.heap.size \/ j = w.heap.size) w0 _ := ((G4.out.mono (T := fun j => j = b \/ j = x2.heap.size \/ j = w.heap.size) (fun j _ hj => .inl hj)).trans hfw (fun j hj => .inl (.inr (.inl hj)))).trans f1 (fun j hj => .inl (.inr (.inr hj)))
    refine ⟨f2.os.trans B0.out.os, f2.tape.trans B0.out.tape, f2.output.trans B0.out.output, Nat.le_trans B0.out.size f2.size, fun k hk hne => ?_⟩
    have := B0.out.size
    rw [f2.block k (by omega) (by rintro (e | e | e); exact hne e; omega; omega)]
    exact B0.out.block k hk)
  go_wp2_with fail
  · next hpos =>
    have hz : wrap64 (2 ^ (logE rs).toNat) = rs := by
      have hrs : rs ≠ 0 := by omega
      have h9 := e2 hrs
      rw [show min (logE rs) 30 = logE rs by omega] at h9
      rw [h9]
      have : rs <= 2048 := by rcases hp with hp | hp; (exact (pow2_rng hp).2); omega
      have : 0 <= rs := by rcases hp with hp | hp; (have := (pow2_rng hp).1; omega); omega
      unfold wrap64; omega
    have hWb := ((fS x4 x2.heap.size 3 (.int .i64 rg)).trans (fS _ x2.heap.size 2 (.int .i64 (wrap64 (2 ^ (logE rs).toNat)))) (fun j hj => .inl hj))
    obtain ⟨q1, q2, q3⟩ := FIN.out _ _ ((hWb.block w.heap.size (lB KR.out) hnx).trans KR.out) hWb hz
    (try simp only [Exit.inBlock, Exit.then])
    refine bodyPost_ret (results_cell_row rfl _ _ w.heap.size _ _ _ _ rfl q1 Tryz.underlying26 rfl (by kernel_rfl)) rfl ?_
    exact ⟨rfl, q2, q3⟩
  · next hpos =>
    have hz : (0 : Int) = rs := by
      have : id = 0 := by omega
      exact (hiz.1 this).symm
    have hWb := fS x4 x2.heap.size 3 (.int .i64 rg)
    obtain ⟨q1, q2, q3⟩ := FIN.out _ _ ((hWb.block w.heap.size (lB KR.out) hnx).trans KR.out) hWb hz
    (try simp only [Exit.inBlock, Exit.then])
    refine bodyPost_ret (results_cell_row rfl _ _ w.heap.size _ _ _ _ rfl q1 Tryz.underlying26 rfl (by kernel_rfl)) rfl ?_
    exact ⟨rfl, q2, q3⟩
structure Rs (w0 : World) (rb b G : Nat) (q : List Int) (W : World) : Prop where
  cel : W.cell? ⟨rb, 0, none⟩ = some (.pointer (some ⟨b, 0, none⟩))
  rd : Rdr W b G q
  gl : G < W.heap.size
  rl : rb < W.heap.size
  ne : ¬ (rb = b)
  fr : Fr (fun j => j = b) w0 W
theorem Rs.below {w0 : World} {rb b G : Nat} {q : List Int} {W W' : World} (h : Rs w0 rb b G q W) (hb : Below W.heap.size W W') : Rs w0 rb b G q W' :=
  ⟨((bcell hb).1 _ _ h.rl).trans h.cel, h.rd.below hb, Nat.lt_of_lt_of_le h.gl hb.size, Nat.lt_of_lt_of_le h.rl hb.size, h.ne, h.fr.trans (.of_below (S := fun j => j = b) hb) (fun j hj => .inl hj)⟩
theorem Rs.step {w0 : World} {rb b G : Nat} {q q' : List Int} {W W' : World} (h : Rs w0 rb b G q W) (hd : Rdr W' b G q') (hf : Fr (fun j => j = b) W W') : Rs w0 rb b G q' W' :=
  ⟨(hf.keep h.rl h.ne).trans h.cel, hd, Nat.lt_of_lt_of_le h.gl hf.size, Nat.lt_of_lt_of_le h.rl hf.size, h.ne, h.fr.trans hf (fun j hj => .inl hj)⟩
theorem Rs.num {w0 : World} {rb b G : Nat} {p q : List Int} {W : World} (h : Rs w0 rb b G (p ++ q) W) (v z : Int) (m : Nat) (hp : p.length = m) (hv : beV p = v) (m1 : 1 <= m) (m7 : m <= 7) (hz : z = (m : Int)) :
    Calls prog 158 #[.int .i64 z, .pointer (some ⟨rb, 0, none⟩)] W fun e w' => e = .returned (.int .i64 v) /\ Rs w0 rb b G q w' /\ Fr (fun j => j = b) W w' :=
  (snum8v rb b p q v z m W h.cel h.rd hp hv m1 m7 hz).mono fun e w' ⟨h1, h2, h3⟩ => ⟨h1, h.step h2 h3, h3⟩
theorem Rs.lay {w0 : World} {rb b G : Nat} {q : List Int} {W : World} (l : Lay) (h : Rs w0 rb b G (layE l ++ q) W) (hf : formB l = true \/ l = lay0) :
    Calls prog 160 #[.pointer (some ⟨b, 0, none⟩)] W fun e w' => e = .returned (.agg #[.int .i64 l.id, .int .i64 l.ver, .int .i64 l.rs, .int .i64 l.rg]) /\ Rs w0 rb b G q w' /\ Fr (fun j => j = b) W w' :=
  (rlay8 b l q W hf h.rd h.gl).mono fun e w' ⟨h1, h2, h3⟩ => ⟨h1, h.step h2 h3, h3⟩
theorem Rs.alloc {w0 : World} {rb b G : Nat} {q : List Int} {W : World} (h : Rs w0 rb b G q W) (o : Obj) : Rs w0 rb b G q (W.alloc o) := h.below ((Below.refl _ _).alloc (Nat.le_refl _) _)
structure Al (w0 : World) (b B : Nat) (o : Obj) (W : World) : Prop where
  blk : W.heap[B]? = some o
  ne : ¬ (B = b)
  ge : w0.heap.size <= B
theorem al_step {w0 : World} {b B : Nat} {o : Obj} {W W' : World} (hf : Fr (fun j => j = b) W W') (h : Al w0 b B o W) : Al w0 b B o W' := ⟨(hf.block B (lB h.blk) h.ne).trans h.blk, h.ne, h.ge⟩
theorem al_new {b rb G : Nat} {q : List Int} {o : Obj} {w0 W W' : World} (hf : Fr (fun j => j = b) (W.alloc o) W') (h : Rs w0 rb b G q W) : Al w0 b W.heap.size o W' := by
  have := h.rd.lt
  have hn : ¬ (W.heap.size = b) := by omega
  exact ⟨(hf.block _ (by simp) hn).trans (nB W o), hn, h.fr.size⟩
theorem al_newd {b rb G : Nat} {q : List Int} {o : Obj} {w0 W W' : World} (hf : Fr (fun j => j = b) (W.alloc o).drew W') (h : Rs w0 rb b G q W) : Al w0 b W.heap.size o W' := by
  have := h.rd.lt
  have hn : ¬ (W.heap.size = b) := by omega
  exact ⟨(hf.block _ (by show W.heap.size < (W.alloc o).heap.size; simp) hn).trans (nB W o), hn, h.fr.size⟩
theorem al_Y {w0 W : World} {b B : Nat} {t : TypeId} {cs : Array Value} (h : Al w0 b B (.cells cs t (0, 0)) W) : ∃ Y : Nat -> Value, (∀ i, i < cs.size -> W.cell? ⟨B, i, none⟩ = some (Y i)) /\ ∀ i, W.frozen? ⟨B, i, none⟩ = false :=
  ⟨fun i => (cs[i]?).getD undef, fun i hi => by rw [qB h.blk]; simp [hi], fun i => zB h.blk⟩
theorem set14 {W : World} {B : Nat} {t : TypeId} {x0 x1 x2 x3 x4 x5 x6 x7 x8 x9 x10 x11 x12 x13 : Value} (h : W.heap[B]? = some (.cells #[x0, x1, x2, x3, x4, x5, x6, x7, x8, x9, x10, x11, x12, x13] t (0, 0))) (y0 y1 y2 y3 y4 y5 y6 y7 y8 y9 y10 y11 y12 y13 : Value) :
    ((((((((((((((W.setCell ⟨B, 0, none⟩ y0).setCell ⟨B, 1, none⟩ y1).setCell ⟨B, 2, none⟩ y2).setCell ⟨B, 3, none⟩ y3).setCell ⟨B, 4, none⟩ y4).setCell ⟨B, 5, none⟩ y5).setCell ⟨B, 6, none⟩ y6).setCell ⟨B, 7, none⟩ y7).setCell ⟨B, 8, none⟩ y8).setCell ⟨B, 9, none⟩ y9).setCell ⟨B, 10, none⟩ y10).setCell ⟨B, 11, none⟩ y11).setCell ⟨B, 12, none⟩ y12).setCell ⟨B, 13, none⟩ y13).heap[B]? = some (.cells #[y0, y1, y2, y3, y4, y5, y6, y7, y8, y9, y10, y11, y12, y13] t (0, 0)) /\ Fr (fun j => j = B) W ((((((((((((((W.setCell ⟨B, 0, none⟩ y0).setCell ⟨B, 1, none⟩ y1).setCell ⟨B, 2, none⟩ y2).setCell ⟨B, 3, none⟩ y3).setCell ⟨B, 4, none⟩ y4).setCell ⟨B, 5, none⟩ y5).setCell ⟨B, 6, none⟩ y6).setCell ⟨B, 7, none⟩ y7).setCell ⟨B, 8, none⟩ y8).setCell ⟨B, 9, none⟩ y9).setCell ⟨B, 10, none⟩ y10).setCell ⟨B, 11, none⟩ y11).setCell ⟨B, 12, none⟩ y12).setCell ⟨B, 13, none⟩ y13) := by
  have h0 : (W.setCell ⟨B, 0, none⟩ y0).heap[B]? = some (.cells #[y0, x1, x2, x3, x4, x5, x6, x7, x8, x9, x10, x11, x12, x13] t (0, 0)) := uB h y0
  have h1 : ((W.setCell ⟨B, 0, none⟩ y0).setCell ⟨B, 1, none⟩ y1).heap[B]? = some (.cells #[y0, y1, x2, x3, x4, x5, x6, x7, x8, x9, x10, x11, x12, x13] t (0, 0)) := uB h0 y1
  have h2 : (((W.setCell ⟨B, 0, none⟩ y0).setCell ⟨B, 1, none⟩ y1).setCell ⟨B, 2, none⟩ y2).heap[B]? = some (.cells #[y0, y1, y2, x3, x4, x5, x6, x7, x8, x9, x10, x11, x12, x13] t (0, 0)) := uB h1 y2
  have h3 : ((((W.setCell ⟨B, 0, none⟩ y0).setCell ⟨B, 1, none⟩ y1).setCell ⟨B, 2, none⟩ y2).setCell ⟨B, 3, none⟩ y3).heap[B]? = some (.cells #[y0, y1, y2, y3, x4, x5, x6, x7, x8, x9, x10, x11, x12, x13] t (0, 0)) := uB h2 y3
  have h4 : (((((W.setCell ⟨B, 0, none⟩ y0).setCell ⟨B, 1, none⟩ y1).setCell ⟨B, 2, none⟩ y2).setCell ⟨B, 3, none⟩ y3).setCell ⟨B, 4, none⟩ y4).heap[B]? = some (.cells #[y0, y1, y2, y3, y4, x5, x6, x7, x8, x9, x10, x11, x12, x13] t (0, 0)) := uB h3 y4
  have h5 : ((((((W.setCell ⟨B, 0, none⟩ y0).setCell ⟨B, 1, none⟩ y1).setCell ⟨B, 2, none⟩ y2).setCell ⟨B, 3, none⟩ y3).setCell ⟨B, 4, none⟩ y4).setCell ⟨B, 5, none⟩ y5).heap[B]? = some (.cells #[y0, y1, y2, y3, y4, y5, x6, x7, x8, x9, x10, x11, x12, x13] t (0, 0)) := uB h4 y5
  have h6 : (((((((W.setCell ⟨B, 0, none⟩ y0).setCell ⟨B, 1, none⟩ y1).setCell ⟨B, 2, none⟩ y2).setCell ⟨B, 3, none⟩ y3).setCell ⟨B, 4, none⟩ y4).setCell ⟨B, 5, none⟩ y5).setCell ⟨B, 6, none⟩ y6).heap[B]? = some (.cells #[y0, y1, y2, y3, y4, y5, y6, x7, x8, x9, x10, x11, x12, x13] t (0, 0)) := uB h5 y6
  have h7 : ((((((((W.setCell ⟨B, 0, none⟩ y0).setCell ⟨B, 1, none⟩ y1).setCell ⟨B, 2, none⟩ y2).setCell ⟨B, 3, none⟩ y3).setCell ⟨B, 4, none⟩ y4).setCell ⟨B, 5, none⟩ y5).setCell ⟨B, 6, none⟩ y6).setCell ⟨B, 7, none⟩ y7).heap[B]? = some (.cells #[y0, y1, y2, y3, y4, y5, y6, y7, x8, x9, x10, x11, x12, x13] t (0, 0)) := uB h6 y7
  have h8 : (((((((((W.setCell ⟨B, 0, none⟩ y0).setCell ⟨B, 1, none⟩ y1).setCell ⟨B, 2, none⟩ y2).setCell ⟨B, 3, none⟩ y3).setCell ⟨B, 4, none⟩ y4).setCell ⟨B, 5, none⟩ y5).setCell ⟨B, 6, none⟩ y6).setCell ⟨B, 7, none⟩ y7).setCell ⟨B, 8, none⟩ y8).heap[B]? = some (.cells #[y0, y1, y2, y3, y4, y5, y6, y7, y8, x9, x10, x11, x12, x13] t (0, 0)) := uB h7 y8
  have h9 : ((((((((((W.setCell ⟨B, 0, none⟩ y0).setCell ⟨B, 1, none⟩ y1).setCell ⟨B, 2, none⟩ y2).setCell ⟨B, 3, none⟩ y3).setCell ⟨B, 4, none⟩ y4).setCell ⟨B, 5, none⟩ y5).setCell ⟨B, 6, none⟩ y6).setCell ⟨B, 7, none⟩ y7).setCell ⟨B, 8, none⟩ y8).setCell ⟨B, 9, none⟩ y9).heap[B]? = some (.cells #[y0, y1, y2, y3, y4, y5, y6, y7, y8, y9, x10, x11, x12, x13] t (0, 0)) := uB h8 y9
  have h10 : (((((((((((W.setCell ⟨B, 0, none⟩ y0).setCell ⟨B, 1, none⟩ y1).setCell ⟨B, 2, none⟩ y2).setCell ⟨B, 3, none⟩ y3).setCell ⟨B, 4, none⟩ y4).setCell ⟨B, 5, none⟩ y5).setCell ⟨B, 6, none⟩ y6).setCell ⟨B, 7, none⟩ y7).setCell ⟨B, 8, none⟩ y8).setCell ⟨B, 9, none⟩ y9).setCell ⟨B, 10, none⟩ y10).heap[B]? = some (.cells #[y0, y1, y2, y3, y4, y5, y6, y7, y8, y9, y10, x11, x12, x13] t (0, 0)) := uB h9 y10
  have h11 : ((((((((((((W.setCell ⟨B, 0, none⟩ y0).setCell ⟨B, 1, none⟩ y1).setCell ⟨B, 2, none⟩ y2).setCell ⟨B, 3, none⟩ y3).setCell ⟨B, 4, none⟩ y4).setCell ⟨B, 5, none⟩ y5).setCell ⟨B, 6, none⟩ y6).setCell ⟨B, 7, none⟩ y7).setCell ⟨B, 8, none⟩ y8).setCell ⟨B, 9, none⟩ y9).setCell ⟨B, 10, none⟩ y10).setCell ⟨B, 11, none⟩ y11).heap[B]? = some (.cells #[y0, y1, y2, y3, y4, y5, y6, y7, y8, y9, y10, y11, x12, x13] t (0, 0)) := uB h10 y11
  have h12 : (((((((((((((W.setCell ⟨B, 0, none⟩ y0).setCell ⟨B, 1, none⟩ y1).setCell ⟨B, 2, none⟩ y2).setCell ⟨B, 3, none⟩ y3).setCell ⟨B, 4, none⟩ y4).setCell ⟨B, 5, none⟩ y5).setCell ⟨B, 6, none⟩ y6).setCell ⟨B, 7, none⟩ y7).setCell ⟨B, 8, none⟩ y8).setCell ⟨B, 9, none⟩ y9).setCell ⟨B, 10, none⟩ y10).setCell ⟨B, 11, none⟩ y11).setCell ⟨B, 12, none⟩ y12).heap[B]? = some (.cells #[y0, y1, y2, y3, y4, y5, y6, y7, y8, y9, y10, y11, y12, x13] t (0, 0)) := uB h11 y12
  have h13 : ((((((((((((((W.setCell ⟨B, 0, none⟩ y0).setCell ⟨B, 1, none⟩ y1).setCell ⟨B, 2, none⟩ y2).setCell ⟨B, 3, none⟩ y3).setCell ⟨B, 4, none⟩ y4).setCell ⟨B, 5, none⟩ y5).setCell ⟨B, 6, none⟩ y6).setCell ⟨B, 7, none⟩ y7).setCell ⟨B, 8, none⟩ y8).setCell ⟨B, 9, none⟩ y9).setCell ⟨B, 10, none⟩ y10).setCell ⟨B, 11, none⟩ y11).setCell ⟨B, 12, none⟩ y12).setCell ⟨B, 13, none⟩ y13).heap[B]? = some (.cells #[y0, y1, y2, y3, y4, y5, y6, y7, y8, y9, y10, y11, y12, y13] t (0, 0)) := uB h12 y13
  refine ⟨h13, ?_⟩
  exact ((((((((((((((fS W B 0 y0).trans (fS _ B 1 y1) (fun j hj => .inl hj)).trans (fS _ B 2 y2) (fun j hj => .inl hj)).trans (fS _ B 3 y3) (fun j hj => .inl hj)).trans (fS _ B 4 y4) (fun j hj => .inl hj)).trans (fS _ B 5 y5) (fun j hj => .inl hj)).trans (fS _ B 6 y6) (fun j hj => .inl hj)).trans (fS _ B 7 y7) (fun j hj => .inl hj)).trans (fS _ B 8 y8) (fun j hj => .inl hj)).trans (fS _ B 9 y9) (fun j hj => .inl hj)).trans (fS _ B 10 y10) (fun j hj => .inl hj)).trans (fS _ B 11 y11) (fun j hj => .inl hj)).trans (fS _ B 12 y12) (fun j hj => .inl hj)).trans (fS _ B 13 y13) (fun j hj => .inl hj))
theorem Rs.set {w0 : World} {rb b G B : Nat} {q : List Int} {W W' : World} (h : Rs w0 rb b G q W) (hf : Fr (fun j => j = B) W W') (hB : w0.heap.size <= B) (hr : rb < w0.heap.size) (hG : G < w0.heap.size) (hb : ¬ (B = b)) : Rs w0 rb b G q W' :=
  ⟨(hf.keep h.rl (by omega)).trans h.cel, h.rd.fr hf (fun (e : b = B) => hb e.symm) (fun (e : G = B) => by omega), Nat.lt_of_lt_of_le h.gl hf.size, Nat.lt_of_lt_of_le h.rl hf.size, h.ne, h.fr.trans hf (fun j (hj : j = B) => .inr (by omega))⟩
theorem fr_setRow (w : World) (g : Nat) (cs : Array Value) : Fr (fun j => j = g) w (w.setRow g cs) := ⟨rfl, rfl, rfl, by simp, fun k hk hne => setRow_other _ _ _ _ hne⟩
theorem bel_setRow {B b : Nat} {w w1 : World} {cs : Array Value} (h : Below B w w1) (hb : B <= b) : Below B w (w1.setRow b cs) := ⟨h.os, h.tape, h.output, by simp; exact h.size, fun k hk => (setRow_other _ _ _ _ (by omega)).trans (h.block k hk)⟩
theorem Rd8.mid {w : World} {a : Option Addr} {n cap : Nat} {bs : List Int} (h : Rd8 w a n cap bs) (lo m : Nat) (hm : lo + m <= n) : Rd8 w (lowA a cap lo) m (cap - lo) ((bs.drop lo).take m) := by
  have hd := h.drop lo (by omega)
  refine hd.take m (by omega) (fun e => ?_)
  have := (hd.nil e).2
  omega
theorem slice_mid (a : Option Addr) (n c lo hi : Nat) (h1 : lo <= hi) (h2 : hi <= c) (W : World) : (Instr.slice 33 (.slice a n c) (some (.int .i64 (lo : Int))) (some (.int .i64 (hi : Int))) none).run prog W = .ok (.slice (lowA a c lo) (hi - lo) (c - lo)) W := by
  have hs : (sizeOf (prog.elem 33)).run prog W = .ok 1 W := by kernel_rfl
  rw [run_slice_lh (P := prog) W 33 a n c (by kernel_rfl) .i64 .i64 (lo : Int) (hi : Int) (by omega) (by omega) (by omega), hs]
  simp only [sliced, Result.andThen_ok, Int.toNat_natCast, Nat.mul_one, lowA]
theorem slice_mid' (a : Option Addr) (n c : Nat) (lo hi : Int) (l h m k : Nat) (hl : lo = (l : Int)) (hh : hi = (h : Int)) (h1 : l <= h) (h2 : h <= c) (hm : m = h - l) (hk : k = c - l) (W : World) : (Instr.slice 33 (.slice a n c) (some (.int .i64 lo)) (some (.int .i64 hi)) none).run prog W = .ok (.slice (lowA a c l) m k) W := by
  subst hl hh hm hk
  exact slice_mid a n c l h h1 h2 W
theorem results_cell3 {P : Program} {fn : Func} {p u v : Tmp} {ty : TypeId} (h : fn.results = #[.cell p ty, .tmp u, .tmp v]) (tmps : Array Value) (w : World) (g : Nat) (t : TypeId) (cs : Array Value) (fr : Nat × Nat) (d : TypeDesc)
    (hp : tmps.getD p undef = .pointer (some ⟨g, 0, none⟩)) (hg : w.heap[g]? = some (.cells cs t fr))
    (hu : P.underlying ty = some d) (hd : (match d with | .struct _ | .array _ _ => true | _ => false) = true) (hi : (P.info? ty).map (·.size) = some cs.size) :
    (results fn tmps).run P w = .ok (.tuple #[.agg cs, tmps.getD u undef, tmps.getD v undef]) w := by
  have hp' : tmps[p]?.getD undef = .pointer (some ⟨g, 0, none⟩) := by simpa using hp
  unfold results
  rw [h]
  simp [hp', asAddr, run_loadVar_row w g t ty cs fr d hg hu hd hi]
theorem rnum8m {G : Nat} (rb b : Nat) (bs : List Int) (m : Nat) (w : World) (hc : w.cell? ⟨rb, 0, none⟩ = some (.pointer (some ⟨b, 0, none⟩))) (h : Rdr w b G bs) (hm : m <= bs.length) (m1 : 1 <= m) (m7 : m <= 7) :
    Calls prog 198 #[.int .i64 (m : Int), .pointer (some ⟨rb, 0, none⟩)] w fun e w' => e = .returned (.int .i64 (beV (bs.take m))) /\ Rdr w' b G (bs.drop m) /\ Fr (fun j => j = b) w w' := by
  have H := hid h
  clear h
  go_enter Tryz.func198, Tryz.ntmps198
  go_wp2_with fail
  with_reducible refine (num8w b bs m _ H.out hm m1 (by omega)).mono ?_
  rintro e w1 ⟨rfl, hd, hf⟩
  obtain ⟨a, cap, _, hr, _⟩ := H.out
  obtain ⟨q0, q1⟩ := beV_rng (hr.byt.take m)
  have hq : beV (bs.take m) < 9223372036854775808 := by
    refine Int.lt_of_lt_of_le q1 ?_
    rw [List.length_take, Nat.min_eq_left hm]
    exact Int.le_trans (pow7 m m7) (by decide)
  have D1 := hid hd
  have F1 := hid hf
  clear hd hf hr q1
  obtain ⟨q, hqe⟩ : ∃ q, beV (bs.take m) = q := ⟨_, rfl⟩
  rw [hqe] at q0 hq ⊢
  have HQ := hid hqe
  clear hqe
  have hw : wrap64 q = q := by unfold wrap64; omega
  go_wp2_with fail
  go_ret
  rw [HQ.out]
  exact ⟨rfl, D1.out, F1.out⟩
theorem Rs.rnum {w0 : World} {rb b G : Nat} {p q : List Int} {W : World} (h : Rs w0 rb b G (p ++ q) W) (v z : Int) (m : Nat) (hp : p.length = m) (hv : beV p = v) (m1 : 1 <= m) (m7 : m <= 7) (hz : z = (m : Int)) :
    Calls prog 198 #[.int .i64 z, .pointer (some ⟨rb, 0, none⟩)] W fun e w' => e = .returned (.int .i64 v) /\ Rs w0 rb b G q w' /\ Fr (fun j => j = b) W w' := by
  subst hz
  refine (rnum8m rb b (p ++ q) m W h.cel h.rd (by simp; omega) m1 m7).mono ?_
  rintro e w' ⟨rfl, h1, h2⟩
  rw [take_app hp] at *
  rw [drop_app hp] at h1
  rw [hv]
  exact ⟨rfl, h.step h1 h2, h2⟩
def recQ (ver : Int) (r : Rec) : List Int := if ver = 1 then beN r.kind 1 ++ (beN r.key.length 1 ++ (beN 0 1 ++ (beN r.val.length 4 ++ (beN r.exp 4 ++ [])))) else beN r.key.length 1 ++ (beN (16 * r.kind) 1 ++ (beN r.val.length 3 ++ (beN 0 1 ++ (beN r.exp 5 ++ []))))
theorem recQ_H (ver : Int) (r : Rec) : (recH ver r).drop 1 = recQ ver r := by
  unfold recH recQ
  split <;> rw [drop_app (bL _ _)] <;> simp
theorem recE_mid {T : Nat -> Int} {ver seq off : Int} {r : Rec} {rest : List Int} : ((recE T ver seq off r ++ rest).drop 1).take 11 = recQ ver r := by
  rw [recE, List.append_assoc, List.drop_append_of_le_length (by rw [recH_length]; omega), List.take_append_of_le_length (by simp [recH_length]), List.take_of_length_le (by simp [recH_length]), recQ_H]
theorem recE_16 {T : Nat -> Int} {ver seq off : Int} {r : Rec} {rest : List Int} : (recE T ver seq off r ++ rest).drop 16 = r.key ++ (r.val ++ rest) := by
  simp only [recE, List.append_assoc]
  exact (drop_sum (m := 12) (drop_app (recH_length _ _)) rfl).trans (drop_app (bL _ 4))
theorem recE_key {T : Nat -> Int} {ver seq off : Int} {r : Rec} {rest : List Int} {kn : Nat} (h : r.key.length = kn) : ((recE T ver seq off r ++ rest).drop 16).take kn = r.key := by
  rw [recE_16, take_app h]
theorem recE_val {T : Nat -> Int} {ver seq off : Int} {r : Rec} {rest : List Int} {kn vn : Nat} (h : r.key.length = kn) (hv : r.val.length = vn) : ((recE T ver seq off r ++ rest).drop (16 + kn)).take vn = r.val := by
  have e17 : (recE T ver seq off r ++ rest).drop (16 + kn) = r.val ++ rest := (drop_sum recE_16 rfl).trans (drop_app h)
  rw [e17, take_app hv]
theorem Own8.setOther {B : Nat} {w : World} {v : Value} {bs : List Int} (h : Own8 B w v bs) {b : Nat} (hb : b < B) (i : Nat) (x : Value) : Own8 B (w.setCell ⟨b, i, none⟩ x) v bs :=
  ⟨own_same h.own (fun g hg => Below.heap_setCell _ _ _ _ (by have := (h.own.lt g hg).1; show g ≠ b; omega)), h.byt⟩
theorem set4c {w : World} {b : Nat} {x0 x1 x2 x3 : Value} {t : TypeId} (h : w.heap[b]? = some (.cells #[x0, x1, x2, x3] t (0, 0))) (y1 y2 : Value) :
    ((w.setCell ⟨b, 1, none⟩ y1).setCell ⟨b, 2, none⟩ y2).heap[b]? = some (.cells #[x0, y1, y2, x3] t (0, 0)) := uB (uB h y1) y2
theorem slice_hi (a : Option Addr) (n c m : Nat) (hi : Int) (hm : hi = (m : Int)) (h1 : m <= c) (W : World) : (Instr.slice 33 (.slice a n c) none (some (.int .i64 hi)) none).run prog W = .ok (.slice a m c) W := by
  subst hm
  have hs : (sizeOf (prog.elem 33)).run prog W = .ok 1 W := by kernel_rfl
  rw [run_slice_h (P := prog) W 33 a n c (by kernel_rfl) .i64 (m : Int) (by omega) (by omega), hs]
  cases a <;> simp [sliced, Addr.add]
theorem clone8z (a : Option Addr) (n cap : Nat) (bs : List Int) (w : World) (h : Rd8 w a n cap bs) (hn : n <= 1099511627776) : Calls prog 90 #[.slice a n cap] w fun e w' => ∃ a' c', e = .returned (.slice a' n c') /\ Own8 w.heap.size w' (.slice a' n c') bs /\ Rd8 w' a' n c' bs /\ Below w.heap.size w w' := by
  refine (clone8 a n cap bs w h hn).mono ?_
  rintro e w' ⟨v, rfl, ho, hb⟩
  obtain ⟨a', c', rfl, hr⟩ := ho.rd
  have hl := h.len
  subst hl
  exact ⟨a', c', rfl, ho, hr, hb⟩
theorem set4b {w : World} {b : Nat} {x0 x1 x2 x3 : Value} {t : TypeId} (h : w.heap[b]? = some (.cells #[x0, x1, x2, x3] t (0, 0))) (y0 y3 : Value) :
    ((w.setCell ⟨b, 0, none⟩ y0).setCell ⟨b, 3, none⟩ y3).heap[b]? = some (.cells #[y0, x1, x2, y3] t (0, 0)) := uB (uB h y0) y3
theorem rdec8 (T : Nat -> Int) (ver seq off : Int) (r : Rec) (rest : List Int) (a : Option Addr) (n cap kn vn : Nat) (w : World) (hc : recChk ver r = 0) (hT : CrcT T w) (hb : Rd8 w a n cap (recE T ver seq off r ++ rest))
    (s0 : 0 <= seq) (s1 : seq < 9223372036854775808) (o0 : 0 <= off) (o1 : off <= 2147483647) (hk : r.key.length = kn) (hv : r.val.length = vn) :
    Calls prog 130 #[.int .i64 ver, .int .i64 seq, .int .i64 off, .slice a n cap] w fun e w' => ∃ ka kc va vc, e = .returned (.tuple #[recV r.kind r.exp ka kn kc va vn vc, .int .i64 (16 + (kn : Int) + (vn : Int)), .bool true]) /\ Own8 w.heap.size w' (.slice ka kn kc) r.key /\ Own8 w.heap.size w' (.slice va vn vc) r.val /\ Below w.heap.size w w' := by
  obtain ⟨hver, k1, k3, k255, v65, e0, e1, hn1, hk3, hkn⟩ := recChk_ok hc
  have el := latestD_le ver
  rw [hk] at k255
  rw [hv] at v65
  have hnl := hb.len
  rw [List.length_append, recE_length, hk, hv] at hnl
  have hcl := hb.cap_le
  have hmax : maxLen = 9223372036854775807 := rfl
  have R1 := hid (show Rd8 w (lowA a cap 1) 11 (cap - 1) (recQ ver r) from by have := hb.mid 1 11 (by omega); rw [recE_mid] at this; exact this)
  have RK := hid (show Rd8 w (lowA a cap 16) kn (cap - 16) r.key from by have := hb.mid 16 kn (by omega); rw [recE_key hk] at this; exact this)
  have RV := hid (show Rd8 w (lowA a cap (16 + kn)) vn (cap - (16 + kn)) r.val from by have := hb.mid (16 + kn) vn (by omega); rw [recE_val hk hv] at this; exact this)
  have RT := hid (show Rd8 w a (16 + kn + vn) cap (recE T ver seq off r) from by
    have := hb.take (16 + kn + vn) (by omega) (fun e => (hb.nil e).2); rw [take_app (by rw [recE_length, hk, hv])] at this; exact this)
  have S1 := fun W : World => slice_mid' a n cap 1 12 1 12 11 (cap - 1) rfl rfl (by omega) (by omega) rfl rfl W
  have S2 := fun W : World => slice_mid' a n cap 16 (16 + (kn : Int)) 16 (16 + kn) kn (cap - 16) rfl (by omega) (by omega) (by omega) (by omega) rfl W
  have S3 := fun W : World => slice_mid' a n cap (16 + (kn : Int)) (16 + (kn : Int) + (vn : Int)) (16 + kn) (16 + kn + vn) vn (cap - (16 + kn)) (by omega) (by omega) (by omega) (by omega) (by omega) rfl W
  have one : ∀ x : Int, 0 <= x -> x < 256 -> beV (beN x 1) = x := fun x h0 h1 => beV_self h0 (by omega)
  have EN := hid (fun (W : World) (ka va : Option Addr) (kc vc : Nat) (hT : CrcT T W) (hK : Rd8 W ka kn kc r.key) (hV : Rd8 W va vn vc r.val) => renc8 T ver seq off r ka va kn kc vn vc W hc hT hK hV s0 s1 o0 o1)
  have CK := hid (fun W (h : Rd8 W (lowA a cap 16) kn (cap - 16) r.key) => clone8z _ _ _ _ W h (by omega))
  have CV := hid (fun W (h : Rd8 W (lowA a cap (16 + kn)) vn (cap - (16 + kn)) r.val) => clone8z _ _ _ _ W h (by omega))
  have HT := hid hT
  have HCAP := hid (show 16 + kn + vn <= cap by omega)
  have h16 : (16 : Int) <= (n : Int) := by omega
  have hend : 16 + (kn : Int) + (vn : Int) <= (n : Int) := by omega
  have hend0 : 0 <= 16 + (kn : Int) + (vn : Int) := by omega
  have HK := hid hk
  have HV := hid hv
  have HQ := hid (show recQ ver r = _ from rfl)
  have HN := hid hnl
  have hquo : Int.tdiv (16 * r.kind) 16 = r.kind := by rw [Int.tdiv_eq_ediv_of_nonneg (by omega)]; omega
  have NA := hid (fun (w0 : World) (rb b G : Nat) (q : List Int) (W : World) (h : Rs w0 rb b G (beN r.kind 1 ++ q) W) => Rs.rnum h r.kind 1 1 (bL _ _) (one _ (by omega) (by omega)) (by omega) (by omega) rfl)
  have NB := hid (fun (w0 : World) (rb b G : Nat) (q : List Int) (W : World) (h : Rs w0 rb b G (beN (r.key.length : Int) 1 ++ q) W) => Rs.rnum h (kn : Int) 1 1 (bL _ _) (by rw [<- hk]; exact one _ (by omega) (by omega)) (by omega) (by omega) rfl)
  have NC := hid (fun (w0 : World) (rb b G : Nat) (q : List Int) (W : World) (h : Rs w0 rb b G (beN 0 1 ++ q) W) => Rs.rnum h 0 1 1 (bL _ _) (one _ (by omega) (by omega)) (by omega) (by omega) rfl)
  have ND := hid (fun (w0 : World) (rb b G : Nat) (q : List Int) (W : World) (h : Rs w0 rb b G (beN (r.val.length : Int) 4 ++ q) W) => Rs.rnum h (vn : Int) 4 4 (bL _ _) (by rw [<- hv]; exact beV_self (by omega) (by omega)) (by omega) (by omega) rfl)
  have NE := hid (fun (hl : r.exp <= 4294967295) (w0 : World) (rb b G : Nat) (q : List Int) (W : World) (h : Rs w0 rb b G (beN r.exp 4 ++ q) W) => Rs.rnum h r.exp 4 4 (bL _ _) (beV_self (by omega) (by omega)) (by omega) (by omega) rfl)
  have NF := hid (fun (w0 : World) (rb b G : Nat) (q : List Int) (W : World) (h : Rs w0 rb b G (beN (16 * r.kind) 1 ++ q) W) => Rs.rnum h (16 * r.kind) 1 1 (bL _ _) (one _ (by omega) (by omega)) (by omega) (by omega) rfl)
  have NG := hid (fun (w0 : World) (rb b G : Nat) (q : List Int) (W : World) (h : Rs w0 rb b G (beN (r.val.length : Int) 3 ++ q) W) => Rs.rnum h (vn : Int) 3 3 (bL _ _) (by rw [<- hv]; exact beV_self (by omega) (by omega)) (by omega) (by omega) rfl)
  have NH := hid (fun (w0 : World) (rb b G : Nat) (q : List Int) (W : World) (h : Rs w0 rb b G (beN r.exp 5 ++ q) W) => Rs.rnum h r.exp 5 5 (bL _ _) (beV_self (by omega) (by omega)) (by omega) (by omega) rfl)
  have EL := hid e1
  have QV := hid (show ∀ v, recQ v r = if v = 1 then _ else _ from fun v => rfl)
  clear hn1 hk3 hkn hc hT hb hcl hnl one e1
  go_enter Tryz.func130, Tryz.ntmps130
  go_wp2_with fail
  obtain ⟨w0, hw0⟩ : ∃ w0, w.alloc (.cells #[.int .i64 0, .slice none 0 0, .slice none 0 0, .int .i64 0] 161) = w0 := ⟨_, rfl⟩
  have B0 := hid (show Below w.heap.size w w0 by rw [<- hw0]; exact (Below.refl _ _).alloc (Nat.le_refl _) _)
  have HB8 := hid (show w0.heap[w.heap.size]? = some (.cells #[.int .i64 0, .slice none 0 0, .slice none 0 0, .int .i64 0] 161 (0, 0)) by rw [<- hw0]; exact nB w _)
  have hsw : w0.heap.size = w.heap.size + 1 := by rw [<- hw0]; simp
  rw [hw0]
  clear hw0
  with_reducible refine (newrd8 (lowA a cap 1) 11 (cap - 1) (recQ ver r) _ (R1.out.below B0.out (Nat.le_refl _)) (by omega) (by omega)).mono ?_
  rintro e w2 ⟨b, G, rfl, hrd, hbl, hbG, hGl, hb2⟩
  have hbl2 := hrd.lt
  have hG3 : G < w2.heap.size := hGl
  have hsz2 := hb2.size
  have B2 := hid hb2
  obtain ⟨w3, hw3⟩ : ∃ w3, (w2.alloc (.cells #[.pointer (some ⟨b, 0, none⟩)] 274)).alloc (.cells #[.int .i64 0, .slice none 0 0, .slice none 0 0, .int .i64 0] 161) = w3 := ⟨_, rfl⟩
  have hs3 : w3.heap.size = w2.heap.size + 1 + 1 := by rw [<- hw3]; simp
  have B3 := hid (show Below w2.heap.size w2 w3 by rw [<- hw3]; exact ((Below.refl _ _).alloc (Nat.le_refl _) _).alloc (by simp) _)
  have hrb : w3.cell? ⟨w2.heap.size, 0, none⟩ = some (.pointer (some ⟨b, 0, none⟩)) := by rw [<- hw3]; exact qB (old_at (nB w2 _) _)
  have HR3 := hid (show w3.heap[w2.heap.size + 1]? = some (.cells #[.int .i64 0, .slice none 0 0, .slice none 0 0, .int .i64 0] 161 (0, 0)) by rw [<- hw3, has1 w2 (.cells #[.pointer (some ⟨b, 0, none⟩)] 274)]; exact nB _ _)
  have RS0 := hid (show Rs w3 w2.heap.size b G (recQ ver r) w3 from Rs.mk hrb (hrd.below B3.out) (by omega) (by omega) (by omega) (Fr.refl _ _))
  have hbb : w0.heap.size <= b := by omega
  have BW3 := hid (tB B2.out B3.out)
  clear hrb hrd hb2
  go_upto_if 28 with fail
  (try rw [hw3])
  clear hw3
  go_cut [14, 15] (fun k v wx => k = .int .i64 (kn : Int) /\ v = .int .i64 (vn : Int) /\ wx.heap[w2.heap.size + 1]? = some (.cells #[.int .i64 r.kind, .slice none 0 0, .slice none 0 0, .int .i64 r.exp] 161 (0, 0)) /\ Below w0.heap.size w0 wx)
  case first =>
    rcases hver with rfl | rfl
    · have RS0' := RS0.out
      rw [recQ, if_pos rfl] at RS0'
      have e4 : r.exp <= 4294967295 := EL.out
      go_wp2_with fail
      with_reducible refine (NA.out _ _ _ _ _ _ RS0').mono ?_
      rintro e x1 ⟨rfl, r1, f1⟩
      go_wp2_with fail
      with_reducible refine (NB.out _ _ _ _ _ _ r1).mono ?_
      rintro e x2 ⟨rfl, r2, f2⟩
      clear r1 f1
      go_wp2_with fail
      with_reducible refine (NC.out _ _ _ _ _ _ r2).mono ?_
      rintro e x3 ⟨rfl, r3, f3⟩
      clear r2 f2
      go_wp2_with fail
      with_reducible refine (ND.out _ _ _ _ _ _ r3).mono ?_
      rintro e x4 ⟨rfl, r4, f4⟩
      clear r3 f3
      go_wp2_with fail
      with_reducible refine ((NE.out e4) _ _ _ _ _ _ r4).mono ?_
      rintro e x5 ⟨rfl, r5, f5⟩
      clear r4 f4
      have hb5 := (r5.fr.block (w2.heap.size + 1) (by omega) (by omega)).trans HR3.out
      have c0 : x5.cell? ⟨w2.heap.size + 1, 0, none⟩ = some (.int .i64 0) := qB hb5
      have c3 : x5.cell? ⟨w2.heap.size + 1, 3, none⟩ = some (.int .i64 0) := qB hb5
      have g0 : x5.frozen? ⟨w2.heap.size + 1, 0, none⟩ = false := zB hb5
      have g3 : x5.frozen? ⟨w2.heap.size + 1, 3, none⟩ = false := zB hb5
      have B5 := hid (Fr.below BW3.out r5.fr BW3.out.size (fun k hk => by rw [hk]; exact hbb))
      have HB5 := hid hb5
      clear hb5 r5 f5
      go_wp2_with fail
      go_meet
      exact ⟨rfl, rfl, set4b HB5.out _ _, sB (sB B5.out (by omega)) (by omega)⟩
    · have RS0' := RS0.out
      rw [recQ, if_neg (by decide)] at RS0'
      go_wp2_with fail
      with_reducible refine (NB.out _ _ _ _ _ _ RS0').mono ?_
      rintro e x1 ⟨rfl, r1, f1⟩
      go_wp2_with fail
      with_reducible refine (NF.out _ _ _ _ _ _ r1).mono ?_
      rintro e x2 ⟨rfl, r2, f2⟩
      clear r1 f1
      go_wp2_with fail
      with_reducible refine (NG.out _ _ _ _ _ _ r2).mono ?_
      rintro e x3 ⟨rfl, r3, f3⟩
      clear r2 f2
      go_wp2_with fail
      with_reducible refine (NC.out _ _ _ _ _ _ r3).mono ?_
      rintro e x4 ⟨rfl, r4, f4⟩
      clear r3 f3
      go_wp2_with fail
      with_reducible refine (NH.out _ _ _ _ _ _ r4).mono ?_
      rintro e x5 ⟨rfl, r5, f5⟩
      clear r4 f4
      have hb5 := (r5.fr.block (w2.heap.size + 1) (by omega) (by omega)).trans HR3.out
      have c0 : x5.cell? ⟨w2.heap.size + 1, 0, none⟩ = some (.int .i64 0) := qB hb5
      have c3 : x5.cell? ⟨w2.heap.size + 1, 3, none⟩ = some (.int .i64 0) := qB hb5
      have g0 : x5.frozen? ⟨w2.heap.size + 1, 0, none⟩ = false := zB hb5
      have g3 : x5.frozen? ⟨w2.heap.size + 1, 3, none⟩ = false := zB hb5
      have B5 := hid (Fr.below BW3.out r5.fr BW3.out.size (fun k hk => by rw [hk]; exact hbb))
      have HB5 := hid hb5
      clear hb5 r5 f5
      go_wp2_with fail
      go_meet
      exact ⟨rfl, rfl, set4b HB5.out _ _, sB (sB B5.out (by omega)) (by omega)⟩
  case rest =>
    obtain ⟨rfl, rfl, hblk, hbx⟩ := hcut
    have hsx := hbx.size
    have hl13 := lB hblk
    have BX := hid hbx
    have BWX := hid (B0.out.trans (hbx.mono B0.out.size))
    have RKx := hid (show ∀ W, Below w.heap.size w W -> Rd8 W (lowA a cap 16) kn (cap - 16) r.key from fun W hW => RK.out.below hW (Nat.le_refl _))
    have RVx := hid (show ∀ W, Below w.heap.size w W -> Rd8 W (lowA a cap (16 + kn)) vn (cap - (16 + kn)) r.val from fun W hW => RV.out.below hW (Nat.le_refl _))
    have HX := hid hblk
    have hBD := BWX.out.drew
    have TX := hid (show ∀ W, Below w.heap.size w W -> CrcT T W from fun W hW => HT.out.below hW HT.out.lt)
    have EQ := hid (fun (W : World) (a1 : Option Addr) (c1 : Nat) (h1 : Rd8 W a1 (16 + kn + vn) c1 (recE T ver seq off r)) (h2 : Rd8 W a (16 + kn + vn) cap (recE T ver seq off r)) =>
      (equal8 a1 a (16 + kn + vn) c1 (16 + kn + vn) cap _ _ W h1 h2).mono (fun e w' h => (show e = .returned (.bool true) /\ W = w' from ⟨by rw [h.1]; simp, h.2⟩)))
    have RTx := hid (show ∀ W, Below w.heap.size w W -> Rd8 W a (16 + kn + vn) cap (recE T ver seq off r) from fun W hW => RT.out.below hW (Nat.le_refl _))
    have S4 := fun W : World => slice_hi a n cap (16 + kn + vn) (16 + (kn : Int) + (vn : Int)) (by omega) HCAP.out W
    have hsx2 : w.heap.size < w0.heap.size := by omega
    clear hbx RK RV RT HT HR3 RS0 B2 B3 BW3 HN
    obtain ⟨t13, ht13⟩ : ∃ t13, w2.heap.size + 1 = t13 := ⟨_, rfl⟩
    rw [ht13] at HX hl13
    have h13 : w0.heap.size <= t13 := by omega
    go_upto_region 13 with fail
    clear ht13
    obtain ⟨wq, rfl⟩ : ∃ q, q = wc := ⟨_, rfl⟩
    have KC := hid (show ∀ W, Below wq.heap.size wq W -> (W.cell? ⟨t13, 1, none⟩ = some (.slice none 0 0) /\ W.cell? ⟨t13, 2, none⟩ = some (.slice none 0 0)) /\ W.frozen? ⟨t13, 1, none⟩ = false /\ W.frozen? ⟨t13, 2, none⟩ = false /\ W.cell? ⟨t13, 0, none⟩ = some (.int .i64 r.kind) from fun W hW =>
      have e := (hW.block t13 hl13).trans HX.out
      ⟨⟨qB e, qB e⟩, zB e, zB e, qB e⟩)
    have hwq : w0.heap.size <= wq.heap.size := hsx
    go_cut [] (fun wx => ∃ ka kc va vc, wx.heap[t13]? = some (.cells #[.int .i64 r.kind, .slice ka kn kc, .slice va vn vc, .int .i64 r.exp] 161 (0, 0)) /\ Own8 wq.heap.size wx (.slice ka kn kc) r.key /\ Own8 wq.heap.size wx (.slice va vn vc) r.val /\ Below w0.heap.size wq wx)
    case first =>
      have hBD := BWX.out.drew
      have hCD : Below wq.heap.size wq wq.drew := (Below.refl _ _).drew
      have hS0 := (KC.out _ hCD).2.2.2
      have hwr : IntKind.i64.wrap (16 + (kn : Int)) = 16 + (kn : Int) := by simp [IntKind.wrap, IntKind.bits, IntKind.signed]; omega
      have hCH : wq.heap.size <= wq.drew.heap.size := Nat.le_refl _
      go_region_held3? (fun w' => w'.cell? ⟨t13, 0, none⟩ = some (.int .i64 r.kind)) (first | exact hS0 | exact q5 | exact hS1 | (simp only [World.cell?_setCell_other, ne_eq, Addr.mk.injEq, Nat.reduceEqDiff, and_false, false_and, not_false_eq_true]; exact q5) | go_keep)
        (first
          | ((go_at_call 90); (with_reducible refine (CK.out _ (RKx.out _ hBD)).mono ?_); (rintro e w5 ⟨a5, c5, rfl, ho5, _, hb5⟩); (have hCK := bidd (w := wq) hb5); (have hBK := BWX.out.trans (hCK.mono (Nat.le_trans B0.out.size hwq))); (have hS1 := (KC.out _ hCK).2.2.2))
          | ((go_at_call 90); (with_reducible refine (CV.out _ (RVx.out _ hBK)).mono ?_); (rintro e w6 ⟨a6, c6, rfl, ho6, _, hb6⟩); (have hCE := tB hCK hb6); (have ho5' := (ho5.mono hCH).below hb6); (have ho6' := ho6.mono hCK.size); (obtain ⟨⟨q1, q2⟩, q3, q4, q5⟩ := KC.out _ hCE))
          | ((go_at_call 90); (with_reducible refine (CV.out _ (RVx.out _ hBD)).mono ?_); (rintro e w6 ⟨a6, c6, rfl, ho6, _, hb6⟩); (have hCV := bidd (w := wq) hb6); (have hBV := BWX.out.trans (hCV.mono (Nat.le_trans B0.out.size hwq))); (have hS1 := (KC.out _ hCV).2.2.2))
          | ((go_at_call 90); (with_reducible refine (CK.out _ (RKx.out _ hBV)).mono ?_); (rintro e w5 ⟨a5, c5, rfl, ho5, _, hb5⟩); (have hCE := tB hCV hb5); (have ho6' := (ho6.mono hCH).below hb5); (have ho5' := ho5.mono hCV.size); (obtain ⟨⟨q1, q2⟩, q3, q4, q5⟩ := KC.out _ hCE)))
      all_goals
        go_wp2_with fail
        go_meet
        exact ⟨a5, c5, a6, c6, set4c ((hCE.block t13 hl13).trans HX.out) _ _, (ho5'.setOther hl13 _ _).setOther hl13 _ _, (ho6'.setOther hl13 _ _).setOther hl13 _ _, sB (sB (hCE.mono hwq) h13) h13⟩
    case rest =>
      obtain ⟨ka, kc, va, vc, hblk, hok, hov, hbx⟩ := hcut
      have d0 : wc.cell? ⟨t13, 0, none⟩ = some (.int .i64 r.kind) := qB hblk
      have d1 : wc.cell? ⟨t13, 1, none⟩ = some (.slice ka kn kc) := qB hblk
      have d2 : wc.cell? ⟨t13, 2, none⟩ = some (.slice va vn vc) := qB hblk
      have d3 : wc.cell? ⟨t13, 3, none⟩ = some (.int .i64 r.exp) := qB hblk
      have hlc := lB hblk
      have BW2 := hid (BWX.out.trans (hbx.mono B0.out.size))
      obtain ⟨_, _, he, hrk⟩ := hok.rd
      rw [HK.out] at he hrk
      cases he
      obtain ⟨_, _, he, hrv⟩ := hov.rd
      rw [HV.out] at he hrv
      cases he
      have E1 := hid (EN.out _ ka va kc vc (TX.out _ BW2.out) hrk hrv)
      have OK := hid hok
      have OV := hid hov
      have HBK := hid hblk
      have HB9 := hid ((hbx.block w.heap.size (by omega)).trans ((BX.out.block w.heap.size (by omega)).trans HB8.out))
      have hsc := hbx.size
      have BHX := hid hbx
      clear hbx hok hov hrk hrv hblk EN
      go_wp2_with fail
      with_reducible refine E1.out.mono ?_
      rintro e w8 ⟨a8, c8, rfl, ho8, hb8⟩
      have BW8 := hid (BW2.out.trans (hb8.mono BW2.out.size))
      have e13 := (hb8.block t13 hlc).trans HBK.out
      have e9 := (hb8.block w.heap.size (by omega)).trans HB9.out
      have d0 : w8.cell? ⟨t13, 0, none⟩ = some (.int .i64 r.kind) := qB e13
      have d1 : w8.cell? ⟨t13, 1, none⟩ = some (.slice ka kn kc) := qB e13
      have d2 : w8.cell? ⟨t13, 2, none⟩ = some (.slice va vn vc) := qB e13
      have d3 : w8.cell? ⟨t13, 3, none⟩ = some (.int .i64 r.exp) := qB e13
      have x0 : w8.cell? ⟨w.heap.size, 0, none⟩ = some (.int .i64 0) := qB e9
      have x1 : w8.cell? ⟨w.heap.size, 1, none⟩ = some (.slice none 0 0) := qB e9
      have x2 : w8.cell? ⟨w.heap.size, 2, none⟩ = some (.slice none 0 0) := qB e9
      have x3 : w8.cell? ⟨w.heap.size, 3, none⟩ = some (.int .i64 0) := qB e9
      have y0 : w8.frozen? ⟨w.heap.size, 0, none⟩ = false := zB e9
      have y1 : w8.frozen? ⟨w.heap.size, 1, none⟩ = false := zB e9
      have y2 : w8.frozen? ⟨w.heap.size, 2, none⟩ = false := zB e9
      have y3 : w8.frozen? ⟨w.heap.size, 3, none⟩ = false := zB e9
      obtain ⟨_, _, he, hr8⟩ := ho8.rd
      have hl8 : (recE T ver seq off r).length = 16 + kn + vn := by rw [recE_length, HK.out, HV.out]
      rw [hl8] at he hr8
      cases he
      have E2 := hid (EQ.out _ a8 c8 hr8 (RTx.out _ BW8.out))
      have E9 := hid e9
      have HKB := hid hb8
      clear hr8 hl8 ho8 hb8 e13 e9 EQ
      go_wp2_with fail
      with_reducible refine E2.out.mono ?_
      rintro e w9 ⟨rfl, rfl⟩
      go_wp2_with fail
      (try simp only [Exit.inBlock, Exit.then])
      refine bodyPost_ret (results_cell3 rfl _ _ w.heap.size _ _ _ _ rfl (set4 E9.out _ _ _ _) Tryz.underlying161 rfl (by kernel_rfl)) rfl ?_
      have hwq : w.heap.size < wq.heap.size := by omega
      exact ⟨ka, kc, va, vc, rfl, ((((((OK.out.below HKB.out).setOther hwq _ _).setOther hwq _ _).setOther hwq _ _).setOther hwq _ _).mono (Nat.le_of_lt hwq)), ((((((OV.out.below HKB.out).setOther hwq _ _).setOther hwq _ _).setOther hwq _ _).setOther hwq _ _).mono (Nat.le_of_lt hwq)),
        sB (sB (sB (sB BW8.out (Nat.le_refl _)) (Nat.le_refl _)) (Nat.le_refl _)) (Nat.le_refl _)⟩
end Go.Proofs.YtbikkioipamlmaaGreatDoor
