/-
  Laws and contracts for the statement TopExpired.
-/
import Derived.Shelf.SlLaysZI
import Derived.Shelf.SlLaysM
import Derived.Shelf.SlIterI.Nil
import Derived.Shelf.SortM.Plain
import Derived.Shelf.SortM.SortNone
import Derived.Test.YtbikkioipamlmaaGreatDoorX32
import Derived.Test.YtbikkioipamlmaaGreatDoorX38
open Go.Lib (hid)
open Go.Proofs.Tryz (prog)
set_option linter.unusedVariables false
set_option linter.unusedSimpArgs false
set_option maxRecDepth 100000
set_option maxHeartbeats 20000000
namespace Go.Proofs.YtbikkioipamlmaaGreatDoor
open Go.Maps Go.RowKit L21 T16
structure FreS (w w' : World) (T : Nat -> Int) (dp xb : Nat) (l : Lay) (ib mb cap n wn sb kb tb cb qb : Nat) (P Q R : Nat -> Prop) (lv : Value) (col : Nat -> Nat) : Prop where
  ok : smallOk l
  s0 : Ss0 w' T sb tb cb qb dp ib mb cap n (.map []) (secs0 (crcF T) 170 l) wn l 0 0 P Q R lv col
  ca : CaS w' xb sb kb 0 0 0 0 (fun _ => 0) 0 col
  be : Below w.heap.size w w'
  old : ∀ j, j < w.heap.size -> col j = 0 /\ j ≠ xb /\ j ≠ kb
  wn : wn <= 1000
theorem results_tmp4 {fn : Func} {t u v x : Tmp} (h : fn.results = #[.tmp t, .tmp u, .tmp v, .tmp x]) (tmps : Array Value) (P : Program) (w : World) :
    (results fn tmps).run P w = .ok (.tuple #[tmps.getD t undef, tmps.getD u undef, tmps.getD v undef, tmps.getD x undef]) w := by
  simp [results, h]
theorem fresh8 (T : Nat -> Int) (x y z : Int) (ops : Value) (w : World) (hT : CrcT T w) (ho : ops.oneCell' = true) :
    Calls prog 9 #[.agg #[.int .i64 x, .int .i64 y, .int .i64 z, ops]] w fun e w' => ∃ dp xb p l ib mb cap n wn sb kb tb cb qb P Q R lv col, e = .returned (.tuple #[.pointer (some ⟨dp, 0, none⟩), .pointer (some ⟨xb, 0, none⟩), .pointer p, .bool true]) /\ FreS w w' T dp xb l ib mb cap n wn sb kb tb cb qb P Q R lv col := by
  have HT := hid hT
  clear hT
  go_enter Tryz.func9, Tryz.ntmps9
  go_wp2_with fail
  with_reducible refine (small8 x y z _).mono ?_
  rintro e w2 ⟨l, hok, rfl, hb2⟩
  have B2 := hid (bel1 hb2)
  have OK := hid hok
  clear hb2 hok
  go_wp2_with fail
  have ND := newD 170 (w2.alloc (.cells #[.int .i64 l.id, .int .i64 l.ver, .int .i64 l.rs, .int .i64 l.rg] 26)) (by omega) (by omega)
  rw [show ((170 : Nat) : Int) = 170 from rfl] at ND
  with_reducible refine ND.mono ?_
  rintro e w4 ⟨dp, ib, mb, cap, rfl, hd4, hdf, hb4⟩
  have hs4 := hb4.size
  rw [heap_alloc_size] at hs4
  have DF := hid (fun j hj => Nat.le_trans (Nat.le_of_eq (heap_alloc_size w2 _).symm) (hdf j hj))
  have B4 := hid (bel1 hb4)
  have LK4 := hid (bel1n hb4)
  have D4 := hid hd4
  clear hd4 hb4 hdf ND
  go_wp2_with fail
  have BN := rblank8 170 w4 (by omega) (by omega)
  rw [show ((170 : Nat) : Int) = 170 from rfl] at BN
  with_reducible refine BN.mono ?_
  rintro e w5 ⟨rp, ob, nb, tb0, oc, nc, tc, rfl, hr5, hrf, hb5⟩
  have RF := hid hrf
  have R5 := hid hr5
  have B5 := hid hb5
  have D5 := hid (D4.out.below hb5)
  have LK5 := hid (bel_old hb5 LK4.out)
  have hok := OK.out
  have T5 := hid (HT.out.below (B := w.heap.size) (tB B2.out (tB B4.out hb5)) HT.out.lt)
  have hw0 := HT.out.lt
  have hw2 := B2.out.size
  have hfo := formB_rng hok.1
  have hrr : l.rg * l.rs <= 48 := by
    have h1 : l.rg * l.rs <= 6 * 8 := Int.mul_le_mul hok.2.2.2 hok.2.2.1 (by omega) (by omega)
    omega
  have h1d : l.id = 1 := hok.2.1
  have CF := cformat8 T dp ib mb cap 0 (.map []) (List.replicate 170 (List.replicate 64 0)) 0 l.ver l.rs l.rg w5 D5.out (by rw [<- h1d]; exact hok.1) (by simp; omega) T5.out (by simp) (by simp) (fun j hj => by have := DF.out j hj; omega)
  rw [<- h1d] at CF
  have HID := hid h1d
  have CF := hid CF
  have k0 := qB (i := 0) LK5.out
  have k1 := qB (i := 1) LK5.out
  have k2 := qB (i := 2) LK5.out
  have k3 := qB (i := 3) LK5.out
  have hl5 := lB LK5.out
  have HRR := hid hrr
  clear hr5 hb5 hrf hok hfo hrr h1d BN
  go_wp2_with fail
  with_reducible refine CF.out.mono ?_
  rintro e w6 ⟨rfl, n6, hd6, hf6⟩
  rw [show (List.replicate 170 (List.replicate 64 (0 : Int))).length = 170 by simp, show (⟨l.id, l.ver, l.rs, l.rg⟩ : Lay) = l from rfl] at hd6
  have D6 := hid hd6
  have F6 := hid hf6
  have T6 := hid (T5.out.fr hf6 (fun h => by have := DF.out 0 h; omega))
  have s4 := hs4
  have R6 := hid (R5.out.fr hf6 (fun j hj h => by have h1 := RF.out j hj; have h2 := D4.out.lt j h; omega))
  have LK6 := hid ((hf6.block w2.heap.size hl5 (fun h => by have := DF.out _ h; omega)).trans LK5.out)
  have RFM := hid (rformat8 170 l R6.out (by omega) (by omega) OK.out.1)
  have hl6 := lB LK6.out
  clear hd6 hf6 k0 k1 k2 k3
  have k0 := qB (i := 0) LK6.out
  have k1 := qB (i := 1) LK6.out
  have k2 := qB (i := 2) LK6.out
  have k3 := qB (i := 3) LK6.out
  go_wp2_with fail
  with_reducible refine RFM.out.mono ?_
  rintro e w7 ⟨rfl, ⟨lf7, wt7, hr7⟩, hf7⟩
  have R7 := hid hr7
  have F7 := hid hf7
  have RDd := hid (show ∀ j, devF dp ib mb j -> ¬ rdF rp ob nb tb0 j from fun j h hj => by have h1 := RF.out j hj; have h2 := D4.out.lt j h; omega)
  have D7 := hid (D6.out.fr hf7 RDd.out)
  have T7 := hid (T6.out.fr hf7 (fun h => by have := RF.out 0 h; omega))
  have hok := OK.out
  have hrr := HRR.out
  have hfo := formB_rng hok.1
  have hsec : (secs0 (crcF T) 170 l).length = 170 := secs0_length _ _ _
  have hmn : (74 : Int) + (l.rg.toNat * l.rs.toNat : Nat) <= 170 := by
    rw [Int.natCast_mul, Int.toNat_of_nonneg (by omega), Int.toNat_of_nonneg (by omega)]; omega
  have CO := copen0 T dp ib mb cap n6 (.map []) (secs0 (crcF T) 170 l) _ l 0 w7 D7.out T7.out hok.1 (by unfold fitsB; rw [hok.1, hsec]; simp; omega) (secs0_get _ _ _ 0 (by omega) (by omega)) (secs0_sup _ _ _ (by omega)) (by rw [hsec]; omega) (secs0_cand _ _ _ _) (by omega) (by omega)
  have CO := hid CO
  clear hr7 hf7 hok hrr hfo hsec hmn k0 k1 k2 k3
  go_wp2_with fail
  with_reducible refine CO.out.mono ?_
  rintro e w8 ⟨xb, sb, kb, tb, cb, qb, P, Q, R, lv, rfl, ca, sto, ix, sk, lr, hB, hi, ho, h1, h2, hb8⟩
  have B8 := hid hb8
  have B6 := hid (show w.heap.size <= w7.heap.size /\ w5.heap.size <= w7.heap.size from by
    have a1 := F6.out.size; have a2 := F7.out.size; have a3 := B5.out.size; have a4 := B4.out.size
    constructor <;> omega)
  have COL := hid (col0 sto ix (D7.out.below hb8) lr (T7.out.below hb8 T7.out.lt) ca sk hi ho h1 h2 hB (fun j hj => ⟨by have := DF.out j hj; omega, D7.out.lt j hj⟩))
  have NW := hid (rnew28 l 170 (R7.out.below hb8) OK.out.1 (by have := HRR.out; omega) (by omega) (by omega))
  have HXB := hid (show w7.heap.size <= xb /\ w7.heap.size <= kb from ⟨by omega, by omega⟩)
  clear ca sto ix sk lr hB hi ho h1 h2 hb8
  go_wp2_with fail
  with_reducible refine NW.out.mono ?_
  rintro e w9 ⟨⟨p9, rfl⟩, hb9⟩
  have B9 := hid hb9
  clear hb9
  go_wp2_with fail
  refine bodyPost_ret (results_tmp4 rfl _ _ _) rfl ?_
  obtain ⟨col, c0, c1, c2⟩ := COL.out
  have hb := B9.out
  have h3 := B2.out.size
  have g4 := B4.out.size
  have FF : Below w.heap.size w w9 := by
    have e5 := tB B2.out (tB B4.out B5.out)
    have e6 := Fr.below e5 F6.out (by have := B5.out.size; omega) (fun k hk => by have := DF.out k hk; omega)
    have e7 := Fr.below e6 F7.out e6.size (fun k hk => by have := RF.out k hk; omega)
    exact tB (tB e7 B8.out) hb
  refine ⟨dp, xb, p9, l, ib, mb, cap, n6, _, sb, kb, tb, cb, qb, P, Q, R, lv, col, rfl, OK.out, c0.below hb, c1.step ⟨Fr.of_below hb, fun _ _ => rfl⟩, FF, ?_, by omega⟩
  intro j hj
  have h1 := HXB.out
  have h2 := B6.out
  exact ⟨c2 j (by omega) (fun h => by have := DF.out j h; omega), by omega, by omega⟩
theorem pbase8 (l : Lay) (w : World) (hf : formB l = true) (h1 : l.id <= 4294967293) :
    Calls prog 105 #[.agg #[.int .i64 l.id, .int .i64 l.ver, .int .i64 l.rs, .int .i64 l.rg]] w fun e w' => e = .returned (.bool true) /\ Below w.heap.size w w' := by
  have FM := hid (fun W => form20 l.id l.ver l.rs l.rg W)
  rw [show (⟨l.id, l.ver, l.rs, l.rg⟩ : Lay) = l from rfl, hf] at FM
  have hd : decide (l.id <= 4294967293) = true := by simp; exact h1
  go_enter Tryz.func105, Tryz.ntmps105
  go_wp2_with fail
  with_reducible refine (FM.out _).mono ?_
  rintro e w1 ⟨rfl, hb⟩
  have B1 := hid (tB (bel_al1 (w := w) _) hb)
  have c0 : w1.cell? ⟨w.heap.size, 0, none⟩ = some (.int .i64 l.id) := qB (i := 0) ((hb.block w.heap.size (by simp)).trans (nB w _))
  clear hb
  go_wp2_with fail
  go_ret
  exact ⟨rfl, B1.out⟩
theorem presize8 (l : Lay) (sn : Int) (w : World) (hf : formB l = true) (h1 : l.id <= 4294967293) :
    Calls prog 46 #[.agg #[.int .i64 l.id, .int .i64 l.ver, .int .i64 l.rs, .int .i64 l.rg], .int .i64 sn, .int .i64 2, .int .i64 3] w fun e w' => e = .returned (.tuple #[.agg #[.int .i64 0, .int .i64 0, .int .i64 0, .int .i64 0], .int .i64 10]) /\ Below w.heap.size w w' := by
  have PB := hid (fun W => pbase8 l W hf h1)
  have FM := hid (fun W => form20 (l.id + 1) l.ver 2 3 W)
  have hff : formB ⟨l.id + 1, l.ver, 2, 3⟩ = false := by unfold formB; simp
  rw [hff] at FM
  have hr := formB_rng hf
  have h0 : 1 <= l.id := hr.1
  have hw1 : IntKind.i64.wrap (l.id + 1) = l.id + 1 := IntWalk.i64_in _ (by omega)
  clear hff hr
  obtain ⟨w0, hw0⟩ : ∃ w0, (w.alloc (.cells #[.int .i64 l.id, .int .i64 l.ver, .int .i64 l.rs, .int .i64 l.rg] 26)).alloc (.cells #[.int .i64 0, .int .i64 0, .int .i64 0, .int .i64 0] 26) = w0 := ⟨_, rfl⟩
  have B0 := hid (show Below w.heap.size w w0 by rw [<- hw0]; exact bel_al (bel_al1 _) _)
  have HX := hid (show w0.heap[w.heap.size]? = some (.cells #[.int .i64 l.id, .int .i64 l.ver, .int .i64 l.rs, .int .i64 l.rg] 26 (0, 0)) by rw [<- hw0]; exact old_at (nB w _) _)
  have HR := hid (show w0.heap[w.heap.size + 1]? = some (.cells #[.int .i64 0, .int .i64 0, .int .i64 0, .int .i64 0] 26 (0, 0)) by rw [<- hw0]; exact heap_two8 w _ _)
  have b0 := qB (i := 0) HX.out
  have b1 := qB (i := 1) HX.out
  have b2 := qB (i := 2) HX.out
  have b3 := qB (i := 3) HX.out
  go_enter Tryz.func46, Tryz.ntmps46
  go_wp2_with fail
  (try rw [hw0])
  clear hw0 b0 b1 b2 b3
  with_reducible refine (PB.out _).mono ?_
  rintro e w1 ⟨rfl, hb1⟩
  have HX1 := hid ((hb1.block _ (lB HX.out)).trans HX.out)
  have B1 := hid (tB B0.out hb1)
  have HR1 := hid ((hb1.block _ (lB HR.out)).trans HR.out)
  have b0 := qB (i := 0) HX1.out
  have b1 := qB (i := 1) HX1.out
  have b2 := qB (i := 2) HX1.out
  have b3 := qB (i := 3) HX1.out
  have hl1 := lB HX1.out
  clear hb1
  go_wp2_with fail
  with_reducible refine (FM.out _).mono ?_
  rintro e w2 ⟨rfl, hb2⟩
  have hb12 := tB (bel_al1 (w := w1) _) hb2
  have B2 := hid (tB B1.out hb12)
  have HR2 := hid ((hb12.block _ (lB HR1.out)).trans HR1.out)
  have r0 := qB (i := 0) HR2.out
  have r1 := qB (i := 1) HR2.out
  have r2 := qB (i := 2) HR2.out
  have r3 := qB (i := 3) HR2.out
  have y0 := zB (i := 0) HR2.out
  have y1 := zB (i := 1) HR2.out
  have y2 := zB (i := 2) HR2.out
  have y3 := zB (i := 3) HR2.out
  clear hb2 hb12 b0 b1 b2 b3
  go_wp2_with (with_reducible refine bodyPost_ret (results_cell2 rfl _ _ (w.heap.size + 1) _ _ _ _ rfl (uB (uB (uB (uB HR2.out _) _) _) _) Tryz.underlying26 rfl (by kernel_rfl)) rfl ?_; exact ⟨rfl, sB (sB (sB (sB B2.out (by omega)) (by omega)) (by omega)) (by omega)⟩)
section
variable {w w' : World} {T : Nat -> Int} {xb kb sb tb cb qb dp ib mb cap n wn N rb pb tk : Nat} {g hi se rj : Int} {c : Nat -> Nat} {k : Nat} {D : DataW Nat} {S : List (List Int)} {l : Lay} {now : Int} {m : Option (ByteArray × Ent)} {P Q R : Nat -> Prop} {lv sv : Value} {st : List Int} {col : Nat -> Nat}
theorem fr_set4 (w : World) (b : Nat) (v0 v1 v2 v3 : Value) : Fr (fun j => j = b) w ((((w.setCell ⟨b, 0, none⟩ v0).setCell ⟨b, 1, none⟩ v1).setCell ⟨b, 2, none⟩ v2).setCell ⟨b, 3, none⟩ v3) :=
  (((fS _ _ _ _).trans (fS _ _ _ _) (fun j hj => .inl hj)).trans (fS _ _ _ _) (fun j hj => .inl hj)).trans (fS _ _ _ _) (fun j hj => .inl hj)
theorem cresz1 (b1 b2 b3 : Nat) (hs : Ss1 w T sb tb cb qb dp ib mb cap n D S wn l now m N P Q R lv rb pb st tk sv col) (h : CaS w xb sb kb g hi se rj c k col) (hf : formB l = true) (h1 : l.id <= 4294967293)
    (e1 : w.cell? ⟨b1, 0, none⟩ = some (.pointer (some ⟨xb, 0, none⟩))) (e2 : w.cell? ⟨b2, 0, none⟩ = some (.int .i64 2)) (e3 : w.cell? ⟨b3, 0, none⟩ = some (.int .i64 3)) :
    Calls prog 45 #[.agg #[.int .i64 l.id, .int .i64 l.ver, .int .i64 l.rs, .int .i64 l.rg], .pointer (some ⟨b1, 0, none⟩), .pointer (some ⟨b2, 0, none⟩), .pointer (some ⟨b3, 0, none⟩)] w fun e w' => e = .returned (.tuple #[.agg #[.int .i64 0, .int .i64 0, .int .i64 0, .int .i64 0], .int .i64 10]) /\ Below w.heap.size w w' := by
  have RZ := hid (fun sn W => presize8 l sn W hf h1)
  have SC := hid (fun W (hW : Below w.heap.size w W) => stsectors8 sb tb cb qb dp ib mb cap n D S wn 0 l lv (some rb) 2 now W (hs.below hW).sto (hs.below hW).dv)
  have q1 : b1 < w.heap.size := World.block_lt_of_cell? _ _ e1
  have q2 : b2 < w.heap.size := World.block_lt_of_cell? _ _ e2
  have q3 : b3 < w.heap.size := World.block_lt_of_cell? _ _ e3
  have q4 := h.lt.1
  obtain ⟨w0, hw0⟩ : ∃ w0, (w.alloc (.cells #[.int .i64 l.id, .int .i64 l.ver, .int .i64 l.rs, .int .i64 l.rg] 26)).alloc (.cells #[.int .i64 0, .int .i64 0, .int .i64 0, .int .i64 0] 26) = w0 := ⟨_, rfl⟩
  have B0 := hid (show Below w.heap.size w w0 by rw [<- hw0]; exact bel_al (bel_al1 _) _)
  have HX := hid (show w0.heap[w.heap.size]? = some (.cells #[.int .i64 l.id, .int .i64 l.ver, .int .i64 l.rs, .int .i64 l.rg] 26 (0, 0)) by rw [<- hw0]; exact old_at (nB w _) _)
  have HR := hid (show w0.heap[w.heap.size + 1]? = some (.cells #[.int .i64 0, .int .i64 0, .int .i64 0, .int .i64 0] 26 (0, 0)) by rw [<- hw0]; exact heap_two8 w _ _)
  have KX := hid (show ∀ W, Below w0.heap.size w0 W -> (W.cell? ⟨w.heap.size, 0, none⟩ = some (.int .i64 l.id) /\ W.cell? ⟨w.heap.size, 1, none⟩ = some (.int .i64 l.ver) /\ W.cell? ⟨w.heap.size, 2, none⟩ = some (.int .i64 l.rs) /\ W.cell? ⟨w.heap.size, 3, none⟩ = some (.int .i64 l.rg)) /\ W.cell? ⟨b1, 0, none⟩ = some (.pointer (some ⟨xb, 0, none⟩)) /\ W.cell? ⟨b2, 0, none⟩ = some (.int .i64 2) /\ W.cell? ⟨b3, 0, none⟩ = some (.int .i64 3) /\ W.cell? ⟨xb, 0, none⟩ = some (.pointer (some ⟨sb, 0, none⟩)) from fun W hW =>
    have e := (hW.block w.heap.size (lB HX.out)).trans HX.out
    have bw := tB B0.out hW
    ⟨⟨qB e, qB e, qB e, qB e⟩, (bw.cell (p := ⟨b1, 0, none⟩) q1).trans e1, (bw.cell (p := ⟨b2, 0, none⟩) q2).trans e2, (bw.cell (p := ⟨b3, 0, none⟩) q3).trans e3, (bw.cell (p := ⟨xb, 0, none⟩) q4).trans (qB (i := 0) h.ca)⟩)
  have KD := hid (KX.out w0.drew (Below.refl _ _).drew)
  have BD := hid (B0.out.drew)
  have hx0 : xb < w0.heap.size := Nat.lt_of_lt_of_le q4 B0.out.size
  have KB := hid (show ∀ W (hW : Below w0.drew.heap.size w0.drew W), W.heap[w.heap.size + 1]? = some (.cells #[.int .i64 0, .int .i64 0, .int .i64 0, .int .i64 0] 26 (0, 0)) from fun W hW => (hW.block _ (lB HR.out)).trans HR.out)
  have K9 := hid (show ∀ W (hW : Below w0.heap.size w0 W) (v0 v1 v2 v3 : Value), (((((W.setCell ⟨w.heap.size + 1, 0, none⟩ v0).setCell ⟨w.heap.size + 1, 1, none⟩ v1).setCell ⟨w.heap.size + 1, 2, none⟩ v2).setCell ⟨w.heap.size + 1, 3, none⟩ v3).cell? ⟨w.heap.size, 0, none⟩ = some (.int .i64 l.id) /\ ((((W.setCell ⟨w.heap.size + 1, 0, none⟩ v0).setCell ⟨w.heap.size + 1, 1, none⟩ v1).setCell ⟨w.heap.size + 1, 2, none⟩ v2).setCell ⟨w.heap.size + 1, 3, none⟩ v3).cell? ⟨w.heap.size, 1, none⟩ = some (.int .i64 l.ver) /\ ((((W.setCell ⟨w.heap.size + 1, 0, none⟩ v0).setCell ⟨w.heap.size + 1, 1, none⟩ v1).setCell ⟨w.heap.size + 1, 2, none⟩ v2).setCell ⟨w.heap.size + 1, 3, none⟩ v3).cell? ⟨w.heap.size, 2, none⟩ = some (.int .i64 l.rs) /\ ((((W.setCell ⟨w.heap.size + 1, 0, none⟩ v0).setCell ⟨w.heap.size + 1, 1, none⟩ v1).setCell ⟨w.heap.size + 1, 2, none⟩ v2).setCell ⟨w.heap.size + 1, 3, none⟩ v3).cell? ⟨w.heap.size, 3, none⟩ = some (.int .i64 l.rg)) /\ ((((W.setCell ⟨w.heap.size + 1, 0, none⟩ v0).setCell ⟨w.heap.size + 1, 1, none⟩ v1).setCell ⟨w.heap.size + 1, 2, none⟩ v2).setCell ⟨w.heap.size + 1, 3, none⟩ v3).cell? ⟨b1, 0, none⟩ = some (.pointer (some ⟨xb, 0, none⟩)) /\ ((((W.setCell ⟨w.heap.size + 1, 0, none⟩ v0).setCell ⟨w.heap.size + 1, 1, none⟩ v1).setCell ⟨w.heap.size + 1, 2, none⟩ v2).setCell ⟨w.heap.size + 1, 3, none⟩ v3).cell? ⟨b2, 0, none⟩ = some (.int .i64 2) /\ ((((W.setCell ⟨w.heap.size + 1, 0, none⟩ v0).setCell ⟨w.heap.size + 1, 1, none⟩ v1).setCell ⟨w.heap.size + 1, 2, none⟩ v2).setCell ⟨w.heap.size + 1, 3, none⟩ v3).cell? ⟨b3, 0, none⟩ = some (.int .i64 3) /\ ((((W.setCell ⟨w.heap.size + 1, 0, none⟩ v0).setCell ⟨w.heap.size + 1, 1, none⟩ v1).setCell ⟨w.heap.size + 1, 2, none⟩ v2).setCell ⟨w.heap.size + 1, 3, none⟩ v3).cell? ⟨xb, 0, none⟩ = some (.pointer (some ⟨sb, 0, none⟩)) from fun W hW v0 v1 v2 v3 =>
    have f := fr_set4 W (w.heap.size + 1) v0 v1 v2 v3
    have q := KX.out W hW
    have s0 : w0.heap.size <= W.heap.size := hW.size
    have s1 := lB HX.out
    have s2 := B0.out.size
    have c : ∀ (b i : Nat), b < w0.heap.size -> b ≠ w.heap.size + 1 -> ((((W.setCell ⟨w.heap.size + 1, 0, none⟩ v0).setCell ⟨w.heap.size + 1, 1, none⟩ v1).setCell ⟨w.heap.size + 1, 2, none⟩ v2).setCell ⟨w.heap.size + 1, 3, none⟩ v3).cell? ⟨b, i, none⟩ = W.cell? ⟨b, i, none⟩ := fun b i hb hn => fr_cell f (by omega) hn i
    ⟨⟨(c _ 0 s1 (by omega)).trans q.1.1, (c _ 1 s1 (by omega)).trans q.1.2.1, (c _ 2 s1 (by omega)).trans q.1.2.2.1, (c _ 3 s1 (by omega)).trans q.1.2.2.2⟩, (c b1 0 (by omega) (by omega)).trans q.2.1, (c b2 0 (by omega) (by omega)).trans q.2.2.1, (c b3 0 (by omega) (by omega)).trans q.2.2.2.1, (c xb 0 (by omega) (by omega)).trans q.2.2.2.2⟩)
  clear hs h hf h1 e1 e2 e3
  go_enter Tryz.func45, Tryz.ntmps45
  go_upto_region 1 with fail
  (try rw [hw0])
  clear hw0
  go_cut [6] (fun v6 wx => v6 = .int .i64 10 /\ wx.heap[w.heap.size + 1]? = some (.cells #[.int .i64 0, .int .i64 0, .int .i64 0, .int .i64 0] 26 (0, 0)) /\ Below w.heap.size w wx)
  case first =>
    have D0 := hid ((Below.refl w0.heap.size w0).drew)
    go_region_held3 (fun w' => (w'.cell? ⟨w.heap.size, 0, none⟩ = some (.int .i64 l.id) /\ w'.cell? ⟨w.heap.size, 1, none⟩ = some (.int .i64 l.ver) /\ w'.cell? ⟨w.heap.size, 2, none⟩ = some (.int .i64 l.rs) /\ w'.cell? ⟨w.heap.size, 3, none⟩ = some (.int .i64 l.rg)) /\ w'.cell? ⟨b1, 0, none⟩ = some (.pointer (some ⟨xb, 0, none⟩)) /\ w'.cell? ⟨b2, 0, none⟩ = some (.int .i64 2) /\ w'.cell? ⟨b3, 0, none⟩ = some (.int .i64 3) /\ w'.cell? ⟨xb, 0, none⟩ = some (.pointer (some ⟨sb, 0, none⟩))) (first | with_reducible exact hS2 | with_reducible exact K9.out _ hB2 _ _ _ _ | with_reducible exact KD.out)
      (first
        | ((go_at_call 46); (with_reducible refine (RZ.out _ _).mono ?_); (rintro e x2 ⟨rfl, hb2⟩); (have hB2 := bidd hb2); (have hS2 := KX.out _ hB2); (have hZ := KB.out _ hb2); (have z0 := qB (i := 0) hZ); (have z1 := qB (i := 1) hZ); (have z2 := qB (i := 2) hZ); (have z3 := qB (i := 3) hZ); (have y0 := zB (i := 0) hZ); (have y1 := zB (i := 1) hZ); (have y2 := zB (i := 2) hZ); (have y3 := zB (i := 3) hZ))
        | ((go_at_call 47); (with_reducible refine (SC.out _ BD.out).mono ?_); (rintro e x1 ⟨rfl, rfl⟩)))
    all_goals
      have HZ := hid hZ
      have BW := hid (tB B0.out hB2)
      clear hZ hb2 hB2 hS2 z0 z1 z2 z3 y0 y1 y2 y3
      go_wp2_with fail
      go_meet
      exact ⟨rfl, uB (uB (uB (uB HZ.out _) _) _) _, sB (sB (sB (sB BW.out (by omega)) (by omega)) (by omega)) (by omega)⟩
  case rest =>
    obtain ⟨rfl, hr, hb⟩ := hcut
    obtain ⟨wq, rfl⟩ : ∃ q, q = wc := ⟨_, rfl⟩
    have RR := hid hr
    have BB := hid hb
    clear hr hb
    go_wp2_with (with_reducible refine bodyPost_ret (results_cell2 rfl _ _ (w.heap.size + 1) _ _ _ _ rfl RR.out Tryz.underlying26 rfl (by kernel_rfl)) rfl ?_; exact ⟨rfl, BB.out⟩)
theorem cstart1 (b1 b2 b3 : Nat) (hs : Ss1 w T sb tb cb qb dp ib mb cap n D S wn l now m N P Q R lv rb pb st tk sv col) (h : CaS w xb sb kb g hi se rj c k col) (hf : formB l = true) (h1 : l.id <= 4294967293)
    (e1 : w.cell? ⟨b1, 0, none⟩ = some (.pointer (some ⟨xb, 0, none⟩))) (e2 : w.cell? ⟨b2, 0, none⟩ = some (.int .i64 2)) (e3 : w.cell? ⟨b3, 0, none⟩ = some (.int .i64 3)) :
    Calls prog 43 #[.pointer (some ⟨xb, 0, none⟩), .func (.func 45) #[] #[.pointer (some ⟨b1, 0, none⟩), .pointer (some ⟨b2, 0, none⟩), .pointer (some ⟨b3, 0, none⟩)]] w fun e w' => e = .returned (.int .i64 10) /\ Below w.heap.size w w' := by
  have DN := hid (cdown8 xb sb kb tb cb qb dp ib mb cap n D S wn g hi se rj 0 l lv (some rb) 2 now w h.ca hs.sto hs.dv)
  have SU := hid (stsuper8 sb tb cb qb dp ib mb cap n D S wn 0 l lv (some rb) 2 now w hs.sto hs.dv)
  have q1 : b1 < w.heap.size := World.block_lt_of_cell? _ _ e1
  have q2 : b2 < w.heap.size := World.block_lt_of_cell? _ _ e2
  have q3 : b3 < w.heap.size := World.block_lt_of_cell? _ _ e3
  have CR := hid (fun W (hW : Below w.heap.size w W) => cresz1 b1 b2 b3 (hs.below hW) (h.step (CStep.below hW)) hf h1 ((hW.cell (p := ⟨b1, 0, none⟩) q1).trans e1) ((hW.cell (p := ⟨b2, 0, none⟩) q2).trans e2) ((hW.cell (p := ⟨b3, 0, none⟩) q3).trans e3))
  have hl := h.lt.1
  have c0 : w.cell? ⟨xb, 0, none⟩ = some (.pointer (some ⟨sb, 0, none⟩)) := qB (i := 0) h.ca
  clear hs h hf h1 e1 e2 e3
  go_enter Tryz.func43, Tryz.ntmps43
  go_wp2_with fail
  with_reducible refine DN.out.mono ?_
  rintro e x0 ⟨rfl, rfl⟩
  go_wp2_with fail
  with_reducible refine SU.out.mono ?_
  rintro e w1 ⟨rfl, hb1⟩
  have B1 := hid (bel_al hb1 (.cells #[.int .i64 1, .int .i64 1, .int .i64 0, .int .i64 1, .int .i64 0, .int .i64 l.id, .int .i64 l.ver, .int .i64 l.rs, .int .i64 l.rg, .int .i64 0, .int .i64 0, .int .i64 0, .int .i64 0, .slice none 0 0] 58))
  clear hb1 c0
  go_wp2_with fail
  with_reducible refine (CR.out _ B1.out).mono ?_
  rintro e w2 ⟨rfl, hb2⟩
  have B2 := hid (bel_al (tB B1.out hb2) (.cells #[.int .i64 0, .int .i64 0, .int .i64 0, .int .i64 0] 26))
  clear hb2
  go_wp2_with fail
  go_ret
  exact ⟨rfl, B2.out⟩
theorem cresize8 (hs : Ss1 w T sb tb cb qb dp ib mb cap n D S wn l now m N P Q R lv rb pb st tk sv col) (h : CaS w xb sb kb g hi se rj c k col) (hf : formB l = true) (h1 : l.id <= 4294967293) :
    Calls prog 14 #[.pointer (some ⟨xb, 0, none⟩), .int .i64 2, .int .i64 3] w fun e w' => e = .returned (.int .i64 10) /\ Below w.heap.size w w' := by
  obtain ⟨w0, hw0⟩ : ∃ w0, ((w.alloc (.cells #[.pointer (some ⟨xb, 0, none⟩)] 29)).alloc (.cells #[.int .i64 2] 3)).alloc (.cells #[.int .i64 3] 3) = w0 := ⟨_, rfl⟩
  have B0 := hid (show Below w.heap.size w w0 by rw [<- hw0]; exact bel_al (bel_al (bel_al1 _) _) _)
  have e1 : w0.cell? ⟨w.heap.size, 0, none⟩ = some (.pointer (some ⟨xb, 0, none⟩)) := qB (i := 0) (show w0.heap[w.heap.size]? = some (.cells #[.pointer (some ⟨xb, 0, none⟩)] 29 (0, 0)) by rw [<- hw0]; exact old_at (old_at (nB w _) _) _)
  have e2 : w0.cell? ⟨w.heap.size + 1, 0, none⟩ = some (.int .i64 2) := qB (i := 0) (show w0.heap[w.heap.size + 1]? = some (.cells #[.int .i64 2] 3 (0, 0)) by rw [<- hw0]; exact old_at (heap_two8 w _ _) _)
  have e3 : w0.cell? ⟨w.heap.size + 1 + 1, 0, none⟩ = some (.int .i64 3) := qB (i := 0) (show w0.heap[w.heap.size + 1 + 1]? = some (.cells #[.int .i64 3] 3 (0, 0)) by rw [<- hw0, has2 w (.cells #[.pointer (some ⟨xb, 0, none⟩)] 29) (.cells #[.int .i64 2] 3)]; exact nB _ _)
  have CS := hid (cstart1 w.heap.size (w.heap.size + 1) (w.heap.size + 1 + 1) (hs.below B0.out) (h.step (CStep.below B0.out)) hf h1 e1 e2 e3)
  clear hs h hf h1 e2 e3
  go_enter Tryz.func14, Tryz.ntmps14
  go_wp2_with fail
  (try rw [hw0])
  clear hw0
  with_reducible refine CS.out.mono ?_
  rintro e w2 ⟨rfl, hb2⟩
  have B2 := hid (tB B0.out hb2)
  clear hb2 e1
  go_wp2_with fail
  go_ret
  exact ⟨rfl, B2.out⟩
end
theorem lit1 (w : World) (b : Int) (fr : Nat × Nat) (h0 : 0 <= b) (h1 : b < 256) : Rd8 (w.alloc (.cells #[.int .u8 b] 5 fr)) (some ⟨w.heap.size, 0, none⟩) 1 1 [b] :=
  rd_lit (nB w _) rfl rfl (Nat.le_refl _) (by unfold maxLen; omega) (.cons h0 h1 .nil)
theorem conv1 (w : World) (b : Int) (g : Nat) (hg : g = w.heap.size) : (convert 33 33 (.slice (some ⟨g, 0, none⟩) 1 1)).run prog (w.alloc (.cells #[.int .u8 b] 5)) = .ok (.slice (some ⟨g, 0, none⟩) 1 1) (w.alloc (.cells #[.int .u8 b] 5 (1, 2))) :=
  Joins.run_convert_bytes_const_at w _ _ #[.int .u8 b] 1 1 g hg Tryz.underlying33 Tryz.underlying5
theorem CaS.below {w w' : World} {xb sb kb : Nat} {g hi se rj : Int} {c : Nat -> Nat} {k : Nat} {col : Nat -> Nat} (h : CaS w xb sb kb g hi se rj c k col) (hb : Below w.heap.size w w') : CaS w' xb sb kb g hi se rj c k col := h.step ⟨Fr.of_below hb, fun _ _ => rfl⟩
theorem aside_new {w : World} {xb sb kb : Nat} {g hi se rj : Int} {c : Nat -> Nat} {k : Nat} {col : Nat -> Nat} (h : CaS w xb sb kb g hi se rj c k col) (h0 : ∀ j, w.heap.size <= j -> col j = 0) {b o : Nat} (hb : w.heap.size <= b) : Aside xb kb col (some ⟨b, o, none⟩) := fun ad e => by
  cases e
  have := h.lt
  exact ⟨h0 b hb, by show b ≠ xb; omega, by show b ≠ kb; omega⟩
theorem KStep.bel {w w' : World} {xb kb : Nat} {col : Nat -> Nat} (h : Below w.heap.size w w') : KStep w w' xb kb col col := KStep.own (F := fun _ => False) (Fr.of_below h) (fun _ f => f.elim)
theorem KStep.old_below {a w w' : World} {xb kb : Nat} {col col' : Nat -> Nat} (h : KStep w w' xb kb col col') (hb : Below a.heap.size a w) (ho : ∀ j, j < a.heap.size -> col j = 0 /\ j ≠ xb /\ j ≠ kb) : Below a.heap.size a w' :=
  Fr.below hb h.fr hb.size (fun k hk => by
    rcases Nat.lt_or_ge k a.heap.size with q | q
    · obtain ⟨h1, h2, h3⟩ := ho k q
      exact absurd hk (fun e => e.elim (fun e => e h1) (fun e => e.elim h2 h3))
    · exact q)
theorem awake8 (T : Nat -> Int) (w : World) (hT : CrcT T w) : Calls prog 58 #[] w fun e w' => e = .returned (.bool true) /\ Below w.heap.size w w' := by
  have FRS := hid (fresh8 T 0 0 0 (.slice none 0 0) w hT rfl)
  clear hT
  go_enter Tryz.func58, Tryz.ntmps58
  go_wp2_with fail
  with_reducible refine FRS.out.mono ?_
  rintro e w1 ⟨dp, xb, p, l, ib, mb, cap, n, wn, sb, kb, tb, cb, qb, P, Q, R, lv, col, rfl, hF⟩
  have F := hid hF
  clear hF
  have hcv1 := conv1 w1 97 w1.heap.size rfl
  have hcv2 := conv1 (w1.alloc (.cells #[.int .u8 97] 5 (1, 2))) 120 (w1.heap.size + 1) (by simp)
  go_wp2_with fail
  obtain ⟨w2, hw2⟩ : ∃ w2, (w1.alloc (.cells #[.int .u8 97] 5 (1, 2))).alloc (.cells #[.int .u8 120] 5 (1, 2)) = w2 := ⟨_, rfl⟩
  have B2 := hid (show Below w1.heap.size w1 w2 by rw [<- hw2]; exact ((Below.refl _ _).alloc (Nat.le_refl _) _).alloc (by simp) _)
  have K2 := hid (show Rd8 w2 (some ⟨w1.heap.size, 0, none⟩) 1 1 [97] by rw [<- hw2]; exact (lit1 w1 97 _ (by omega) (by omega)).below ((Below.refl _ _).alloc (Nat.le_refl _) _) (Nat.le_refl _))
  have V2 := hid (show Rd8 w2 (some ⟨w1.heap.size + 1, 0, none⟩) 1 1 [120] by rw [<- hw2, <- heap_alloc_size w1 (.cells #[.int .u8 97] 5 (1, 2))]; exact lit1 _ 120 _ (by omega) (by omega))
  have SE := cset1 (some ⟨w1.heap.size, 0, none⟩) (some ⟨w1.heap.size + 1, 0, none⟩) 1 1 1 1 [97] [120] 5 (F.out.s0.below B2.out) (F.out.ca.below B2.out) K2.out V2.out (aside_new F.out.ca F.out.s0.k0 (Nat.le_refl _)) (fun _ => aside_new F.out.ca F.out.s0.k0 (Nat.le_succ _)) F.out.ok.1 (by rw [secs0_length]; omega) (by have := F.out.wn; omega) (by omega) (by omega) (by omega) (by omega) (by omega) (by omega)
  have SE := hid SE
  rw [hw2]
  clear hw2 hcv1 hcv2
  with_reducible refine SE.out.mono ?_
  rintro e w3 ⟨rfl, n3, lv3, rb, pb, P3, Q3, R3, sv3, c3, k3, col3, s3, a3, q3⟩
  have S3 := hid s3
  have A3 := hid a3
  have TK := hid (ctick0 4 _ _ s3 a3 (by omega) (by omega) (by omega) (by omega) (by show (0 : Int) + 4 < 5; omega))
  have Q3 := hid ((KStep.bel B2.out).trans q3)
  clear s3 a3 q3
  go_wp2_with fail
  with_reducible refine TK.out.mono ?_
  rintro e w4 ⟨rfl, col4, s4, a4, q4⟩
  have S4 := hid s4
  have A4 := hid a4
  have Q4 := hid (Q3.out.trans q4)
  clear s4 a4 q4
  have hcv4 := conv1 w4 97 w4.heap.size rfl
  go_wp2_with fail
  have hrc : recChk l.ver ⟨1, [97], [120], 5⟩ = 0 := by
    have hv := F.out.ok.1
    unfold formB at hv
    rw [decide_eq_true_eq] at hv
    rcases hv.2.2.1 with h | h <;> (rw [h]; decide)
  have BL4 := hid (show Below w4.heap.size w4 (w4.alloc (.cells #[.int .u8 97] 5 (1, 2))) from (Below.refl _ _).alloc (Nat.le_refl _) _)
  have G4 := hid (cget1 (some ⟨w4.heap.size, 0, none⟩) 1 1 1 1 ⟨1, [97], [120], 5⟩ false [97] (S4.out.below BL4.out) (A4.out.below BL4.out) (lit1 w4 97 _ (by omega) (by omega)) (by omega) (by omega) (aside_new A4.out S4.out.k0 (Nat.le_refl _)) hrc rfl rfl (by omega) (by omega) (by omega))
  clear hcv4 hrc
  with_reducible refine G4.out.mono ?_
  rintro e w5 ⟨a5, c5, P5, cc5, k5, col5, rfl, ho5, s5, a5', q5⟩
  obtain ⟨a9, c9, e9, hr5⟩ := ho5.rd
  cases e9
  have hcs : (convert 33 9 (.slice a5 1 c5)).run prog w5 = .ok (.string ⟨#[120]⟩) w5 := conv_bytes hr5
  have S5 := hid s5
  have A5 := hid a5'
  have TK5 := hid (ctick1 1 _ _ s5 a5' (by omega) (by omega) (by omega) (by omega) (by decide) (by decide) (by decide) (by show (1 : Int) <= 5; omega) (by show (5 : Int) <= 0 + 4 + 1; omega))
  have Q5 := hid ((Q4.out.trans (KStep.bel BL4.out)).trans q5)
  clear ho5 s5 a5' q5 hr5
  go_wp2_with fail
  with_reducible refine TK5.out.mono ?_
  rintro e w6 ⟨rfl, P6, Q6, R6, col6, s6, a6, q6⟩
  have S6 := hid s6
  have A6 := hid a6
  have Q6 := hid (Q5.out.trans q6)
  clear s6 a6 q6 hcs
  have hcv6 := conv1 w6 97 w6.heap.size rfl
  have BL6 := hid (show Below w6.heap.size w6 (w6.alloc (.cells #[.int .u8 97] 5 (1, 2))) from (Below.refl _ _).alloc (Nat.le_refl _) _)
  have G6 := hid (cget0 (some ⟨w6.heap.size, 0, none⟩) 1 1 [97] (S6.out.below BL6.out) (A6.out.below BL6.out) (lit1 w6 97 _ (by omega) (by omega)) (by omega) (by omega) (aside_new A6.out S6.out.k0 (Nat.le_refl _)) (by omega))
  go_wp2_with fail
  with_reducible refine G6.out.mono ?_
  rintro e w7 ⟨P7, c7, k7, col7, rfl, s7, a7, q7⟩
  have RZ := hid (cresize8 s7 a7 F.out.ok.1 (by have := F.out.ok.2.1; omega))
  have Q7 := hid ((Q6.out.trans (KStep.bel BL6.out)).trans q7)
  clear s7 a7 q7 hcv6
  go_wp2_with fail
  with_reducible refine RZ.out.mono ?_
  rintro e w8 ⟨rfl, hb8⟩
  have FIN := hid (tB (Q7.out.old_below F.out.be F.out.old) hb8)
  clear hb8
  go_wp2_with fail
  go_ret
  exact ⟨rfl, FIN.out⟩
end Go.Proofs.YtbikkioipamlmaaGreatDoor
namespace Go.Proofs.YtbikkioipamlmaaGreatDoor
open Go.Shelf
def keysRenD : Go.Shelf.Ren := ⟨fun | 7 => 152 | 10 => 226 | n => n, fun | 23 => 186 | 26 => 3 | 3 => 271 | 28 => 269 | 0 => 0 | 27 => 268 | 33 => 350 | 4 => 4 | n => n, fun | n => n⟩
theorem keysLaysD : SlLaysZI.n7 prog keysRenD := {
  mixed := by kernel_rfl
  f7 := ⟨Tryz.f152.name, by decide, Tryz.func152.trans (congrArg some (by kernel_rfl))⟩
  f10 := ⟨Tryz.f226.name, by decide, Tryz.func226.trans (congrArg some (by kernel_rfl))⟩
  t0 := Tryz.underlying0
  a0 := Tryz.isAgg0
  z0 := Tryz.sizeOf0
  v0 := Tryz.zeroValue0
  t4 := Tryz.underlying4
  a4 := Tryz.isAgg4
  z4 := Tryz.sizeOf4
  v4 := Tryz.zeroValue4
  t23 := Tryz.underlying186
  a23 := Tryz.isAgg186
  z23 := Tryz.sizeOf186
  v23 := Tryz.zeroValue186
  t26 := Tryz.underlying3
  a26 := Tryz.isAgg3
  z26 := Tryz.sizeOf3
  v26 := Tryz.zeroValue3
  t27 := Tryz.underlying268
  a27 := Tryz.isAgg268
  z27 := Tryz.sizeOf268
  v27 := Tryz.zeroValue268
  t28 := Tryz.underlying269
  a28 := Tryz.isAgg269
  z28 := Tryz.sizeOf269
  v28 := Tryz.zeroValue269
  t33 := Tryz.underlying350
  a33 := Tryz.isAgg350
  z33 := Tryz.sizeOf350
  v33 := Tryz.zeroValue350 }
def sortedRenD : Go.Shelf.Ren := ⟨fun | 6 => 151 | 8 => 224 | 9 => 225 | 11 => 290 | 13 => 269 | 12 => 291 | 23 => 324 | 24 => 325 | 14 => 331 | 15 => 332 | 16 => 333 | 17 => 334 | 18 => 335 | 19 => 336 | 20 => 337 | 21 => 338 | 22 => 339 | 25 => 367 | 26 => 363 | 27 => 364 | 28 => 368 | 29 => 369 | 30 => 262 | 31 => 377 | n => n, fun | 26 => 3 | 28 => 269 | 24 => 266 | 0 => 0 | 3 => 3 | 37 => 97 | 48 => 125 | 50 => 167 | 4 => 4 | 40 => 435 | 39 => 434 | 45 => 326 | 5 => 5 | 9 => 9 | 51 => 462 | 55 => 466 | 57 => 475 | 58 => 476 | 33 => 350 | n => n, fun | n => n⟩
theorem sortedLaysD : SlLaysZI.n6 prog sortedRenD := {
  mixed := by kernel_rfl
  f6 := ⟨Tryz.f151.name, by decide, Tryz.func151.trans (congrArg some (by kernel_rfl))⟩
  f8 := ⟨Tryz.f224.name, by decide, Tryz.func224.trans (congrArg some (by kernel_rfl))⟩
  f11 := ⟨Tryz.f290.name, by decide, Tryz.func290.trans (congrArg some (by kernel_rfl))⟩
  t0 := Tryz.underlying0
  a0 := Tryz.isAgg0
  z0 := Tryz.sizeOf0
  v0 := Tryz.zeroValue0
  t24 := Tryz.underlying266
  a24 := Tryz.isAgg266
  z24 := Tryz.sizeOf266
  v24 := Tryz.zeroValue266
  t26 := Tryz.underlying3
  a26 := Tryz.isAgg3
  z26 := Tryz.sizeOf3
  v26 := Tryz.zeroValue3
  t28 := Tryz.underlying269
  a28 := Tryz.isAgg269
  z28 := Tryz.sizeOf269
  v28 := Tryz.zeroValue269
  i26 := by kernel_rfl }
def sortRenD : Go.Shelf.Ren := ⟨fun | 5 => 225 | 8 => 269 | 7 => 291 | 19 => 324 | 20 => 325 | 10 => 331 | 11 => 332 | 12 => 333 | 13 => 334 | 14 => 335 | 15 => 336 | 16 => 337 | 17 => 338 | 18 => 339 | 30 => 367 | 31 => 363 | 32 => 364 | 33 => 368 | 34 => 369 | 35 => 262 | 40 => 377 | n => n, fun | 23 => 266 | 25 => 3 | 3 => 3 | 32 => 97 | 22 => 266 | 0 => 0 | 44 => 125 | 46 => 167 | 4 => 4 | 36 => 435 | 35 => 434 | 41 => 326 | 5 => 5 | 9 => 9 | 53 => 462 | 57 => 466 | 63 => 475 | 64 => 476 | n => n, fun | n => n⟩
theorem sortLaysD : SlLaysM.n5 prog sortRenD := {
  mixed := by kernel_rfl
  f5 := ⟨Tryz.f225.name, by decide, Tryz.func225.trans (congrArg some (by kernel_rfl))⟩
  f7 := ⟨Tryz.f291.name, by decide, Tryz.func291.trans (congrArg some (by kernel_rfl))⟩
  f8 := Tryz.func269.trans (congrArg some (by kernel_rfl))
  f10 := ⟨Tryz.f331.name, by decide, Tryz.func331.trans (congrArg some (by kernel_rfl))⟩
  f11 := ⟨Tryz.f332.name, by decide, Tryz.func332.trans (congrArg some (by kernel_rfl))⟩
  f12 := ⟨Tryz.f333.name, by decide, Tryz.func333.trans (congrArg some (by kernel_rfl))⟩
  f13 := ⟨Tryz.f334.name, by decide, Tryz.func334.trans (congrArg some (by kernel_rfl))⟩
  f14 := ⟨Tryz.f335.name, by decide, Tryz.func335.trans (congrArg some (by kernel_rfl))⟩
  f15 := ⟨Tryz.f336.name, by decide, Tryz.func336.trans (congrArg some (by kernel_rfl))⟩
  f16 := ⟨Tryz.f337.name, by decide, Tryz.func337.trans (congrArg some (by kernel_rfl))⟩
  f17 := ⟨Tryz.f338.name, by decide, Tryz.func338.trans (congrArg some (by kernel_rfl))⟩
  f18 := ⟨Tryz.f339.name, by decide, Tryz.func339.trans (congrArg some (by kernel_rfl))⟩
  f19 := Tryz.func324.trans (congrArg some (by kernel_rfl))
  f20 := Tryz.func325.trans (congrArg some (by kernel_rfl))
  f30 := ⟨Tryz.f367.name, by decide, Tryz.func367.trans (congrArg some (by kernel_rfl))⟩
  f31 := Tryz.func363.trans (congrArg some (by kernel_rfl))
  f32 := Tryz.func364.trans (congrArg some (by kernel_rfl))
  f33 := ⟨Tryz.f368.name, by decide, Tryz.func368.trans (congrArg some (by kernel_rfl))⟩
  f34 := ⟨Tryz.f369.name, by decide, Tryz.func369.trans (congrArg some (by kernel_rfl))⟩
  f35 := ⟨Tryz.f262.name, by decide, Tryz.func262.trans (congrArg some (by kernel_rfl))⟩
  f40 := ⟨Tryz.f377.name, by decide, Tryz.func377.trans (congrArg some (by kernel_rfl))⟩
  t0 := Tryz.underlying0
  a0 := Tryz.isAgg0
  z0 := Tryz.sizeOf0
  v0 := Tryz.zeroValue0
  t3 := Tryz.underlying3
  a3 := Tryz.isAgg3
  z3 := Tryz.sizeOf3
  v3 := Tryz.zeroValue3
  t4 := Tryz.underlying4
  a4 := Tryz.isAgg4
  z4 := Tryz.sizeOf4
  v4 := Tryz.zeroValue4
  t5 := Tryz.underlying5
  a5 := Tryz.isAgg5
  z5 := Tryz.sizeOf5
  v5 := Tryz.zeroValue5
  t9 := Tryz.underlying9
  a9 := Tryz.isAgg9
  z9 := Tryz.sizeOf9
  v9 := Tryz.zeroValue9
  t22 := Tryz.underlying266
  a22 := Tryz.isAgg266
  z22 := Tryz.sizeOf266
  v22 := Tryz.zeroValue266
  t23 := Tryz.underlying266
  a23 := Tryz.isAgg266
  z23 := Tryz.sizeOf266
  v23 := Tryz.zeroValue266
  t25 := Tryz.underlying3
  a25 := Tryz.isAgg3
  z25 := Tryz.sizeOf3
  v25 := Tryz.zeroValue3
  t32 := Tryz.underlying97
  a32 := Tryz.isAgg97
  z32 := Tryz.sizeOf97
  v32 := Tryz.zeroValue97
  t35 := Tryz.underlying434
  a35 := Tryz.isAgg434
  z35 := Tryz.sizeOf434
  v35 := Tryz.zeroValue434
  t36 := Tryz.underlying435
  a36 := Tryz.isAgg435
  z36 := Tryz.sizeOf435
  v36 := Tryz.zeroValue435
  t41 := Tryz.underlying326
  a41 := Tryz.isAgg326
  z41 := Tryz.sizeOf326
  v41 := Tryz.zeroValue326
  t44 := Tryz.underlying125
  a44 := Tryz.isAgg125
  z44 := Tryz.sizeOf125
  v44 := Tryz.zeroValue125
  t46 := Tryz.underlying167
  a46 := Tryz.isAgg167
  z46 := Tryz.sizeOf167
  v46 := Tryz.zeroValue167
  t53 := Tryz.underlying462
  a53 := Tryz.isAgg462
  z53 := Tryz.sizeOf462
  v53 := Tryz.zeroValue462
  t57 := Tryz.underlying466
  a57 := Tryz.isAgg466
  z57 := Tryz.sizeOf466
  v57 := Tryz.zeroValue466
  t63 := Tryz.underlying475
  a63 := Tryz.isAgg475
  z63 := Tryz.sizeOf475
  v63 := Tryz.zeroValue475
  t64 := Tryz.underlying476
  a64 := Tryz.isAgg476
  z64 := Tryz.sizeOf476
  v64 := Tryz.zeroValue476 }
end Go.Proofs.YtbikkioipamlmaaGreatDoor
namespace Go.Proofs.YtbikkioipamlmaaGreatDoor
open Go.Maps Go.RowKit Go.Shelf Go.Sort
theorem keysD (mb : Option Nat) (w : World) : Calls prog 152 #[.map mb] w fun e w' =>
    e = .returned (.func (.func 226) #[] #[.pointer (some ⟨w.heap.size, 0, none⟩)]) /\ w' = w.alloc (.cells #[.map mb] 186) :=
  (callsIn_wide (n := 5)).1 (AnyZI.keys_in keysLaysD Fence.wide 5 trivial rfl mb w)
theorem sortsD (m : Nat) : AnyZI.SortsIn prog sortedRenD Fence.wide m :=
  ⟨fun blk off cap ss W hH hblk hsz => callsIn_wide.2 (AnyM.slices_Sort_int sortLaysD blk off cap ss W hH hblk hsz),
   fun p cap W => callsIn_wide.2 (AnyM.slices_Sort_int_none sortLaysD p cap W)⟩
theorem sortedD (b nn B : Nat) (D0 : DataW Nat) (R : Value -> Option (DataW Nat × List MemPlace)) (w : World) (hcell : w.cell? ⟨B, 0, none⟩ = some (.map (some b))) (hB : B < w.heap.size) (hown : w.ownsMap prog 3 R b nn D0) (hmax : Maps.size D0 <= maxLen) (hbytes : Maps.size D0 * 8 <= 140737488355328) :
    Calls prog 151 #[.func (.func 226) #[] #[.pointer (some ⟨B, 0, none⟩)]] w fun e w' => ∃ (v : Value) (ss : List Int), e = .returned v /\ ss.Perm (intKeys D0) /\
      w'.ownsRow w.heap.size 3 1 v ss.length ((ss.mergeSort (fun x y => decide (x <= y))).map encZ) /\ (v = .slice none 0 0 ↔ ss = []) /\ Below w.heap.size w w' := by
  have hseq : SeqGives Fence.wide 2 prog 226 #[.pointer (some ⟨B, 0, none⟩)] encZ (fun ss => ss.Perm (intKeys D0)) (Maps.size D0) w :=
    AnyZI.keys_gives (ρ := keysRenD) { keysLaysD with } Fence.wide _ trivial rfl (by omega) B b nn D0 _ hB hcell hown
  exact (callsIn_wide (n := 5)).1 (AnyZI.sorted_in sortedLaysD Fence.wide 5 trivial trivial trivial trivial rfl (by omega) (sortsD _) (enters_of Tryz.func225 (by kernel_rfl) rfl) 226 #[.pointer (some ⟨B, 0, none⟩)] trivial (enters_of Tryz.func226 (by kernel_rfl) rfl) _ _ hmax hbytes _ hseq)
theorem Dev.all {w : World} {dp ib mb cap n : Nat} {D : DataW Nat} {S : List (List Int)} {wr : Nat} (h : Dev w dp ib mb cap n D S wr) : Rd8 w (some ⟨ib, 0, none⟩) (64 * S.length) cap S.flatten := by
  obtain ⟨cs, h1, h2, h3⟩ := h.img
  have hc := h.capb
  have hl := flat64_length h.ok
  refine ⟨hl, fun j hj => ⟨ib, 0, rfl, lB h1, ?_⟩, ⟨by omega, by omega⟩, (fun e => by cases e), fun z hz => ?_⟩
  · have hj2 : j < S.flatten.length := by omega
    have h4 : (u8s S.flatten)[j]? = some (.int .u8 (S.flatten[j]'hj2)) := by
      rw [u8s, List.getElem?_map, List.getElem?_eq_getElem hj2]; rfl
    rw [Nat.zero_add, qB h1, <- Array.getElem?_toList]
    rw [<- h3, List.getElem?_take, if_pos (by omega)] at h4
    rw [h4, List.getElem?_eq_getElem hj2]; rfl
  · obtain ⟨s, hs, hz⟩ := List.mem_flatten.1 hz
    exact h.ok.byt s hs z hz
theorem crash8 (dp ib mb cap n : Nat) (S : List (List Int)) (wr : Nat) (ka ta : Option Addr) (kn kc tn tc : Nat) (w : World) (h : Dev w dp ib mb cap n (.map []) S wr) :
    Calls prog 84 #[.pointer (some ⟨dp, 0, none⟩), .slice ka kn kc, .slice ta tn tc] w fun e w' => NewD w w' S e := by
  obtain ⟨c0, c1, c2, c3, c4⟩ := h.cells
  have hl := lB h.blk
  have LO := hid (loadD (some ⟨ib, 0, none⟩) (64 * S.length) cap S w h.all rfl h.ok h.len.1 h.len.2)
  have HD := hid h
  obtain ⟨L, hL⟩ : ∃ L, 64 * S.length = L := ⟨_, rfl⟩
  rw [hL] at LO c0
  clear h hL
  go_enter Tryz.func84, Tryz.ntmps84
  go_wp2_with fail
  with_reducible refine LO.out.mono ?_
  rintro e w1 ⟨dp2, ib2, mb2, cap2, rfl, hd2, hg2, hb1⟩
  have D2 := hid hd2
  have G2 := hid hg2
  have B1 := hid hb1
  have e1 : w1.cell? ⟨dp, 1, none⟩ = some (.map (some mb)) := (hb1.cell (p := ⟨dp, 1, none⟩) hl).trans c1
  have hl1 : dp < w1.heap.size := Nat.lt_of_lt_of_le hl hb1.size
  have HD1 := hid (HD.out.below hb1)
  clear hd2 hg2 hb1 c0 c1 c2 c3 c4 LO
  go_wp2_with fail
  with_reducible refine (keysD _ _).mono ?_
  rintro e w2 ⟨rfl, rfl⟩
  have SO := hid (sortedD mb n w1.heap.size (.map []) secR (w1.alloc (.cells #[.map (some mb)] 186)) (by rw [qB (heap_alloc_new _ _)]; rfl) (by simp) (HD1.out.old.alloc _) (by show Maps.size (.map [] : DataW Nat) <= _; exact Nat.zero_le _) (by rw [show Maps.size (.map [] : DataW Nat) = 0 from rfl]; omega))
  go_wp2_with fail
  with_reducible refine SO.out.mono ?_
  rintro e w3 ⟨v, ss, rfl, hp, -, hz, hb⟩
  have hn : ss = [] := List.Perm.eq_nil (show ss.Perm [] from hp)
  obtain rfl := hz.2 hn
  have B13 := hid (bel1 hb)
  clear hp hz hb hn SO e1
  go_wp2_with fail
  go_loopw [26] (fun i wr => i = .int .i64 0 /\ wr = w3) (fun _ _ => 0)
  case atStart => exact ⟨rfl, rfl⟩
  case round =>
    obtain ⟨rfl, rfl⟩ := hrel
    go_wp2_with fail
    go_ret
    exact ⟨dp2, ib2, mb2, cap2, rfl, D2.out.below B13.out, G2.out, tB B1.out B13.out⟩
end Go.Proofs.YtbikkioipamlmaaGreatDoor
namespace Go.Proofs.YtbikkioipamlmaaGreatDoor
open Go.Maps Go.RowKit L21 T16
theorem begun8 (T : Nat -> Int) (w : World) (hT : CrcT T w) : Calls prog 18 #[] w fun e w' => e = .returned (.bool true) /\ Below w.heap.size w w' := by
  have AW := hid (awake8 T w hT)
  clear hT
  go_enter Tryz.func18, Tryz.ntmps18
  go_wp2_with fail
  with_reducible refine AW.out.mono ?_
  rintro e w1 ⟨rfl, hb⟩
  have B := hid hb
  clear hb
  go_wp2_with fail
  go_ret
  exact ⟨rfl, B.out⟩
theorem slice_hib (a : Option Addr) (n c m : Nat) (hi : Int) (hm : hi = (m : Int)) (h1 : m <= c) (W : World) : (Instr.slice 34 (.slice a n c) none (some (.int .i64 hi)) none).run prog W = .ok (.slice a m c) W := by
  subst hm
  have hs : (sizeOf (prog.elem 34)).run prog W = .ok 1 W := by kernel_rfl
  rw [run_slice_h (P := prog) W 34 a n c (by kernel_rfl) .i64 (m : Int) (by omega) (by omega), hs]
  cases a <;> simp [sliced, Addr.add]
theorem reopenC (dp ib mb cap n : Nat) (S : List (List Int)) (wr : Nat) (ka : Option Addr) (kn kc : Nat) (now : Int) (w : World) (h : Dev w dp ib mb cap n (.map []) S wr) (hk : kn <= kc) (hk2 : kn <= 9223372036854775807)
    (Po : World -> Nat -> Nat -> World -> Prop)
    (OP : ∀ (w1 : World) (dp2 ib2 mb2 cap2 : Nat), Below w.heap.size w w1 -> Dev w1 dp2 ib2 mb2 cap2 0 (.map []) S 0 -> (∀ j, devF dp2 ib2 mb2 j -> w.heap.size <= j) -> Calls prog 38 #[.pointer (some ⟨dp2, 0, none⟩), .int .i64 now] w1 fun e w' => ∃ xb, e = .returned (.tuple #[.pointer (some ⟨xb, 0, none⟩), .int .i64 0]) /\ Po w1 dp2 xb w') :
    Calls prog 26 #[.pointer (some ⟨dp, 0, none⟩), .slice ka kn kc, .slice none 0 0, .int .i64 now] w fun e w' => ∃ w1 dp2 xb, e = .returned (.tuple #[.pointer (some ⟨dp2, 0, none⟩), .pointer (some ⟨xb, 0, none⟩), .bool true]) /\ Po w1 dp2 xb w' := by
  obtain ⟨m, hm⟩ : ∃ m, min kn 30 = m := ⟨_, rfl⟩
  have sl := fun W => slice_hib ka kn kc m (m : Int) rfl (by omega) W
  have hmin : min (kn : Int) 30 = (m : Int) := by omega
  have hmin0 : min (0 : Int) 4 = 0 := by omega
  have CR := hid (crash8 dp ib mb cap n S wr ka none m kc 0 0 w.drew (h.below (Below.refl _ _).drew))
  have OPh := hid OP
  have hl := h.lt _ (.inl rfl)
  have H0 := hid (show 0 < w.drew.heap.size from by show 0 < w.heap.size; omega)
  clear h OP hm
  go_enter Tryz.func26, Tryz.ntmps26
  go_upto_region 1 with fail
  go_region_held3 (fun w' => 0 < w'.heap.size) (first | with_reducible exact H0.out | with_reducible exact hp1)
    (first
      | ((go_at_call 84); (with_reducible refine CR.out.mono ?_); (rintro e w1 ⟨dp2, ib2, mb2, cap2, rfl, hd2, hg2, hb1⟩); (have hp1 := Nat.lt_of_lt_of_le H0.out hb1.size)))
  all_goals
    have OQ := hid (OPh.out w1 dp2 ib2 mb2 cap2 (bidd hb1) hd2 hg2)
    clear hb1 hd2 hg2 hp1
    go_wp2_with fail
    with_reducible refine OQ.out.mono ?_
    rintro e w2 ⟨xb, rfl, hp⟩
    have HP := hid hp
    clear hp
    go_wp2_with fail
    go_ret3
    exact ⟨w1, dp2, xb, rfl, HP.out⟩
end Go.Proofs.YtbikkioipamlmaaGreatDoor
