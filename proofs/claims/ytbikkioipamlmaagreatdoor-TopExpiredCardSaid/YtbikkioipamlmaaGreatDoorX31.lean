/-
  Laws and contracts for the statement TopExpired.
-/
import Derived.Laws.LoneSync
import Derived.Test.YtbikkioipamlmaaGreatDoorX30
open Go.Lib (hid)
open Go.Proofs.Tryz (prog)
set_option linter.unusedVariables false
set_option linter.unusedSimpArgs false
set_option maxRecDepth 100000
set_option maxHeartbeats 20000000
namespace Go.Proofs.YtbikkioipamlmaaGreatDoor
open Go.Maps Go.RowKit L21 T16
theorem ckey8 (xb sb kb tb cb qb dp ib mb cap n : Nat) (D : DataW Nat) (S : List (List Int)) (wn : Nat) (g hi se rj ev : Int) (l : Lay) (lv : Value) (ob : Option Nat) (nx now : Int) (ka : Option Addr) (kn kc : Nat) (w : World) (hc : CaB w xb sb kb g hi se rj) (h : StB w sb tb cb qb dp ev l lv ob nx now) (hd : Dev w dp ib mb cap n D S wn) (k0 : 1 <= kn) (k1 : kn <= 255) :
    Calls prog 82 #[.pointer (some ⟨xb, 0, none⟩), .slice ka kn kc] w fun e w' => e = .returned (.int .i64 0) /\ w = w' := by
  have DN := hid (cdown8 xb sb kb tb cb qb dp ib mb cap n D S wn g hi se rj ev l lv ob nx now w hc h hd)
  have hk0 : ((kn : Int) == 0) = false := beq_eq_false_iff_ne.2 (by omega)
  clear hc h hd
  go_enter Tryz.func82, Tryz.ntmps82
  go_wp2_with fail
  with_reducible refine DN.out.mono ?_
  rintro e w1 ⟨rfl, rfl⟩
  go_wp2_with fail
  go_ret
  exact ⟨rfl, rfl⟩
theorem aadd8 (b i : Nat) (x : Int) (w : World) (hc : w.cell? ⟨b, i, none⟩ = some (.int .i64 x)) (hz : w.frozen? ⟨b, i, none⟩ = false) (h0 : 0 <= x) (h1 : x <= 1000000) :
    Calls prog 79 #[.pointer (some ⟨b, i, none⟩), .int .i64 1] w fun e w' => e = .returned (.int .i64 (x + 1)) /\ w' = w.setCell ⟨b, i, none⟩ (.int .i64 (x + 1)) := by
  have hw1 : IntKind.i64.wrap (x + 1) = x + 1 := IntWalk.i64_in _ (by omega)
  have hadd := run_call_add (P := prog) Tryz.func141 (by kernel_rfl) (by kernel_rfl) (by kernel_rfl) .i64 (by kernel_rfl) (y := 1) (s := x + 1) hc hz (by simp [go_sem, hw1])
  have hl := World.block_lt_of_cell? _ _ hc
  go_enter Tryz.func79, Tryz.ntmps79
  go_wp2_with fail
  go_ret
  exact ⟨rfl, rfl⟩
theorem sk_fr {w w' : World} {b : Nat} {c : Nat -> Nat} {n : Nat} {F : Nat -> Prop} (h : S19.Sk .u8 w b c n) (hf : Fr F w w') (hn : ¬ F b) : S19.Sk .u8 w' b c n := by
  obtain ⟨h1, h2, h3⟩ := h
  have hl : b < w.heap.size := World.block_lt_of_cell? _ _ h2
  have hb := hf.block b hl hn
  have hc : ∀ i, w'.cell? ⟨b, i, none⟩ = w.cell? ⟨b, i, none⟩ := fun i => World.cell?_of_block (a := ⟨b, i, none⟩) hb
  refine ⟨fun i hi => (hc i).trans (h1 i hi), (hc 256).trans h2, fun i => ?_⟩
  rw [<- h3 i]
  simp [World.frozen?, hb]
structure CaS (w : World) (xb sb kb : Nat) (g hi se rj : Int) (c : Nat -> Nat) (k : Nat) (col : Nat -> Nat) : Prop where
  ca : CaB w xb sb kb g hi se rj
  sk : S19.Sk .u8 w kb c k
  c15 : ∀ j, c j <= 15
  k640 : k < 640
  kx : col xb = 0
  kk : col kb = 0
  ne : xb ≠ kb
  xp : 0 < xb
  kp : 0 < kb
  gb : 0 <= g /\ g <= 1000
  hb : 0 <= hi /\ hi <= 1000
  sb' : 0 <= se /\ se <= 1000
  nsx : xb ≠ sb
theorem CaS.lt {w : World} {xb sb kb : Nat} {g hi se rj : Int} {c : Nat -> Nat} {k : Nat} {col : Nat -> Nat} (h : CaS w xb sb kb g hi se rj c k col) : xb < w.heap.size /\ kb < w.heap.size := ⟨lB h.ca, World.block_lt_of_cell? _ _ h.sk.2.1⟩
theorem CaS.step {w w' : World} {xb sb kb : Nat} {g hi se rj : Int} {c : Nat -> Nat} {k : Nat} {col col' : Nat -> Nat} (h : CaS w xb sb kb g hi se rj c k col) (s : CStep w w' col col') : CaS w' xb sb kb g hi se rj c k col' :=
  ⟨(s.block h.lt.1 h.kx).trans h.ca, sk_fr h.sk s.fr (fun e => e h.kk), h.c15, h.k640, (s.old _ h.lt.1).trans h.kx, (s.old _ h.lt.2).trans h.kk, h.ne, h.xp, h.kp, h.gb, h.hb, h.sb', h.nsx⟩
structure KStep (w w' : World) (xb kb : Nat) (col col' : Nat -> Nat) : Prop where
  fr : Fr (fun j => col j ≠ 0 \/ j = xb \/ j = kb) w w'
  old : ∀ j, j < w.heap.size -> col' j = col j
theorem KStep.of {w w' : World} {xb kb : Nat} {col col' : Nat -> Nat} (h : CStep w w' col col') : KStep w w' xb kb col col' := ⟨h.fr.mono (fun j _ hj => .inl hj), h.old⟩
theorem KStep.trans {a b c : World} {xb kb : Nat} {x y z : Nat -> Nat} (h : KStep a b xb kb x y) (k : KStep b c xb kb y z) : KStep a c xb kb x z :=
  ⟨h.fr.trans k.fr (fun j hj => by
    rcases Nat.lt_or_ge j a.heap.size with q | q
    · exact .inl (by rw [<- h.old j q]; exact hj)
    · exact .inr q), fun j hj => (k.old j (Nat.lt_of_lt_of_le hj h.fr.size)).trans (h.old j hj)⟩
theorem KStep.own {w w' : World} {xb kb : Nat} {col : Nat -> Nat} {F : Nat -> Prop} (h : Fr F w w') (hF : ∀ j, F j -> j = xb \/ j = kb) : KStep w w' xb kb col col := ⟨h.mono (fun j _ hj => .inr (hF j hj)), fun _ _ => rfl⟩
theorem k0_mono {w w' : World} {col : Nat -> Nat} (h : ∀ j, w.heap.size <= j -> col j = 0) (hs : w.heap.size <= w'.heap.size) : ∀ j, w'.heap.size <= j -> col j = 0 := fun j hj => h j (Nat.le_trans hs hj)
theorem touch_le (c : Nat -> Nat) (n : Nat) (h : Int) (hc : ∀ j, c j <= 15) : ∀ j, S19.touchC c n h j <= 15 := by
  unfold S19.touchC
  split
  · exact S19.rowsD_le c h hc 4
  · exact S19.half_le _ _ (S19.rowsD_le c h hc 4)
theorem touch_lt (n : Nat) (hn : n < 640) : S19.touchN n < 640 := by unfold S19.touchN; split <;> omega
section
variable {w : World} {T : Nat -> Int} {xb kb sb tb cb qb dp ib mb cap n wn N rb pb tk : Nat} {g hi se rj : Int} {c : Nat -> Nat} {k : Nat} {D : DataW Nat} {S : List (List Int)} {l : Lay} {now : Int} {m : Option (ByteArray × Ent)} {P Q R : Nat -> Prop} {lv sv : Value} {st : List Int} {col : Nat -> Nat}
theorem cas_g (hs : Ss1 w T sb tb cb qb dp ib mb cap n D S wn l now m N P Q R lv rb pb st tk sv col) (h : CaS w xb sb kb g hi se rj c k col) (hg : g + 1 <= 1000) : Ss1 (w.setCell ⟨xb, 2, none⟩ (.int .i64 (g + 1))) T sb tb cb qb dp ib mb cap n D S wn l now m N P Q R lv rb pb st tk sv col /\ CaS (w.setCell ⟨xb, 2, none⟩ (.int .i64 (g + 1))) xb sb kb (g + 1) hi se rj c k col /\ KStep w (w.setCell ⟨xb, 2, none⟩ (.int .i64 (g + 1))) xb kb col col := by
  have f := fS w xb 2 (.int .i64 (g + 1))
  refine ⟨hs.fr f (fun j hj => by rw [hj]; exact ⟨h.kx, by have := h.xp; omega⟩) (k0_mono hs.k0 f.size), ⟨uB h.ca _, sk_fr h.sk f (fun e => h.ne e.symm), h.c15, h.k640, h.kx, h.kk, h.ne, h.xp, h.kp, by have := h.gb; omega, h.hb, h.sb', h.nsx⟩, KStep.own f (fun j hj => .inl hj)⟩
theorem cas_h (hs : Ss1 w T sb tb cb qb dp ib mb cap n D S wn l now m N P Q R lv rb pb st tk sv col) (h : CaS w xb sb kb g hi se rj c k col) (hg : hi + 1 <= 1000) : Ss1 (w.setCell ⟨xb, 3, none⟩ (.int .i64 (hi + 1))) T sb tb cb qb dp ib mb cap n D S wn l now m N P Q R lv rb pb st tk sv col /\ CaS (w.setCell ⟨xb, 3, none⟩ (.int .i64 (hi + 1))) xb sb kb g (hi + 1) se rj c k col /\ KStep w (w.setCell ⟨xb, 3, none⟩ (.int .i64 (hi + 1))) xb kb col col := by
  have f := fS w xb 3 (.int .i64 (hi + 1))
  refine ⟨hs.fr f (fun j hj => by rw [hj]; exact ⟨h.kx, by have := h.xp; omega⟩) (k0_mono hs.k0 f.size), ⟨uB h.ca _, sk_fr h.sk f (fun e => h.ne e.symm), h.c15, h.k640, h.kx, h.kk, h.ne, h.xp, h.kp, h.gb, by have := h.hb; omega, h.sb', h.nsx⟩, KStep.own f (fun j hj => .inl hj)⟩
theorem cas_s (hs : Ss1 w T sb tb cb qb dp ib mb cap n D S wn l now m N P Q R lv rb pb st tk sv col) (h : CaS w xb sb kb g hi se rj c k col) (hg : se + 1 <= 1000) : Ss1 (w.setCell ⟨xb, 4, none⟩ (.int .i64 (se + 1))) T sb tb cb qb dp ib mb cap n D S wn l now m N P Q R lv rb pb st tk sv col /\ CaS (w.setCell ⟨xb, 4, none⟩ (.int .i64 (se + 1))) xb sb kb g hi (se + 1) rj c k col /\ KStep w (w.setCell ⟨xb, 4, none⟩ (.int .i64 (se + 1))) xb kb col col := by
  have f := fS w xb 4 (.int .i64 (se + 1))
  refine ⟨hs.fr f (fun j hj => by rw [hj]; exact ⟨h.kx, by have := h.xp; omega⟩) (k0_mono hs.k0 f.size), ⟨uB h.ca _, sk_fr h.sk f (fun e => h.ne e.symm), h.c15, h.k640, h.kx, h.kk, h.ne, h.xp, h.kp, h.gb, h.hb, by have := h.sb'; omega, h.nsx⟩, KStep.own f (fun j hj => .inl hj)⟩
theorem cas_t {w' : World} {h9 : Int} (h : CaS w xb sb kb g hi se rj c k col) (hk : S19.Sk .u8 w' kb (S19.touchC c k h9) (S19.touchN k)) (hg : w.grownBy w' (some kb)) : CaS w' xb sb kb g hi se rj (S19.touchC c k h9) (S19.touchN k) col /\ KStep w w' xb kb col col /\ Fr (fun j => j = kb) w w' := by
  have f : Fr (fun j => j = kb) w w' := Fr.of_grown hg (fun j e => by injection e with e; exact e.symm)
  exact ⟨⟨(f.block xb h.lt.1 h.ne).trans h.ca, hk, touch_le c k h9 h.c15, touch_lt k h.k640, h.kx, h.kk, h.ne, h.xp, h.kp, h.gb, h.hb, h.sb', h.nsx⟩, KStep.own f (fun j hj => .inr hj), f⟩
end
theorem stick0 (sb tb cb qb dp ib mb cap n N : Nat) (D : DataW Nat) (S : List (List Int)) (wn : Nat) (ev : Int) (l : Lay) (lv : Value) (ob : Option Nat) (nx now t : Int) (m : Option (ByteArray × Ent)) (ql : List Q18.Item) (P Q R : Nat -> Prop) (w : World) (h : StB w sb tb cb qb dp ev l lv ob nx now) (hd : Dev w dp ib mb cap n D S wn) (hix : IxQ w tb cb qb m ql N P Q R) (hsb : ¬ ixF P Q R sb) (hsd : ¬ devF dp ib mb sb)
    (n0 : 0 <= now) (t0 : 0 <= t) (nt : now + t <= 549755813888) (hN : N <= 1000000) (he : Q18.early ql (now + t) = []) (hla : Q18.late ql (now + t) = ql) :
    Calls prog 81 #[.pointer (some ⟨sb, 0, none⟩), .int .i64 t] w fun e w' => e = .returned (.int .i64 0) /\ StB w' sb tb cb qb dp ev l lv ob nx (now + t) /\ IxQ w' tb cb qb m ql N P Q R /\ Fr (fun j => j = sb \/ R j) w w' := by
  have c24 : w.cell? ⟨sb, 24, none⟩ = some (.int .i64 now) := qB (i := 24) h
  have f24 : w.frozen? ⟨sb, 24, none⟩ = false := zB (i := 24) h
  have hl := lB h
  have DN := hid (down8 sb tb cb qb dp ib mb cap n D S wn ev l lv ob nx now w h hd)
  have H := hid h
  have HI := hid hix
  have HSB := hid hsb
  have DUE := hid (fun (W : World) (hq : Q18.QOk W qb N R ql) => Q18.qdue qb N R ql (now + t) W hN hq)
  rw [he, hla] at DUE
  have hg : ¬ (t > 549755813888 - now) := by omega
  clear h hd hix hsb he hla
  go_enter Tryz.func81, Tryz.ntmps81
  go_wp2_with fail
  with_reducible refine DN.out.mono ?_
  rintro e w1 ⟨rfl, rfl⟩
  go_upto_region 6 with fail
  obtain ⟨w2, hw2⟩ : ∃ w2, w.setCell ⟨sb, 24, none⟩ (.int .i64 (now + t)) = w2 := ⟨_, rfl⟩
  have ff := fS w sb 24 (.int .i64 (now + t))
  have H2 := hid (show StB w2 sb tb cb qb dp ev l lv ob nx (now + t) by rw [<- hw2]; exact uB H.out _)
  have F2 := hid (show Fr (fun j => j = sb) w w2 by rw [<- hw2]; exact ff)
  have I2 := hid (HI.out.fr F2.out (fun j hj e => HSB.out (by rw [<- e]; exact hj)))
  rw [hw2]
  clear hw2 ff c24 f24
  have D2 := hid (DUE.out w2.drew (I2.out.q.frame (T := fun _ => False) (Fr.of_below (Below.refl _ _).drew) (fun _ _ f => f)))
  have K2 := hid (show ∀ W, Fr R w2 W -> W.cell? ⟨sb, 2, none⟩ = some (.pointer (some ⟨qb, 0, none⟩)) /\ W.cell? ⟨sb, 24, none⟩ = some (.int .i64 (now + t)) from fun W hW =>
    have e := (hW.block sb (lB H2.out) (fun hj => HSB.out (.inr (.inr hj)))).trans H2.out
    ⟨qB e, qB e⟩)
  have K2d := hid (K2.out w2.drew (Fr.of_below (Below.refl _ _).drew))
  have hl2 := lB H2.out
  go_region_held3 (fun w' => w'.cell? ⟨sb, 2, none⟩ = some (.pointer (some ⟨qb, 0, none⟩)) /\ w'.cell? ⟨sb, 24, none⟩ = some (.int .i64 (now + t))) (first | with_reducible exact hS3 | with_reducible exact K2d.out)
    (first
      | ((go_at_call 148); (with_reducible refine D2.out.mono ?_); (rintro e x3 ⟨sl, rfl, hsl, q3, f3⟩); (have hS3 := K2.out _ (fr_undrew f3)); (obtain ⟨sa, sc, rfl⟩ := own_sl0 hsl)))
  have f3' := fr_undrew f3
  have H3 := hid (H2.out.fr f3' (fun hj => HSB.out (.inr (.inr hj))))
  have I3 := hid (show IxQ x3 tb cb qb m ql N P Q R from ⟨I2.out.t.fr f3' (fun j hp hr => I2.out.pr j hp hr), I2.out.c.frame f3' (fun j hq hr => I2.out.qr j hq hr), q3, I2.out.pq, I2.out.pr, I2.out.qr⟩)
  have F3 := hid (show Fr (fun j => j = sb \/ R j) w x3 from (F2.out.mono (fun j _ hj => .inl hj)).trans f3' (fun j hj => .inl (.inr hj)))
  clear hsl q3 f3 f3' hS3
  go_wp2_with fail
  go_loopw [41] (fun i wr => i = .int .i64 0 /\ wr = x3) (fun _ _ => 0)
  case atStart => exact ⟨rfl, rfl⟩
  case round =>
    obtain ⟨rfl, rfl⟩ := hrel
    go_wp2_with fail
    go_ret
    exact ⟨rfl, H3.out, I3.out, F3.out⟩
theorem stick1 (sb tb cb qb dp ib mb cap n N : Nat) (D : DataW Nat) (S : List (List Int)) (wn : Nat) (ev : Int) (l : Lay) (lv : Value) (ob : Option Nat) (nx now t : Int) (k : ByteArray) (x : Ent) (P Q R : Nat -> Prop) (w : World) (h : StB w sb tb cb qb dp ev l lv ob nx now) (hd : Dev w dp ib mb cap n D S wn) (hix : Ix w tb cb qb (some (k, x)) N P Q R) (hsb : ¬ ixF P Q R sb) (hsd : ¬ devF dp ib mb sb)
    (n0 : 0 <= now) (t0 : 0 <= t) (nt : now + t <= 549755813888) (hN : N <= 1000) (hk : k.size <= maxLen) (w0 : (Lit.int .i64 x.seq).wf = true) (w1 : (Lit.int .i64 x.off).wf = true) (x1 : 1 <= x.exp) (hx : x.exp <= now + t) :
    Calls prog 81 #[.pointer (some ⟨sb, 0, none⟩), .int .i64 t] w fun e w' => e = .returned (.int .i64 0) /\ ∃ P' Q' R', StB w' sb tb cb qb dp ev l lv ob nx (now + t) /\ Ix w' tb cb qb none N P' Q' R' /\ Fr (fun j => j = sb \/ ixF P Q R j) w w' /\ ∀ j, ixF P' Q' R' j -> ixF P Q R j \/ w.heap.size <= j := by
  have hqe : quL (some (k, x)) = [⟨k, x.exp⟩] := by unfold quL; simp only; rw [if_neg (by omega)]
  have he : Q18.early (quL (some (k, x))) (now + t) = [⟨k, x.exp⟩] := by rw [hqe]; unfold Q18.early; simp [hx]
  have hla : Q18.late (quL (some (k, x))) (now + t) = [] := by rw [hqe]; unfold Q18.late; simp [hx]
  have c24 : w.cell? ⟨sb, 24, none⟩ = some (.int .i64 now) := qB (i := 24) h
  have f24 : w.frozen? ⟨sb, 24, none⟩ = false := zB (i := 24) h
  have hl := lB h
  have DN := hid (down8 sb tb cb qb dp ib mb cap n D S wn ev l lv ob nx now w h hd)
  have H := hid h
  have HI := hid hix
  have HSB := hid hsb
  have DUE := hid (fun (W : World) (hq : Q18.QOk W qb N R (quL (some (k, x)))) => Q18.qdue qb N R (quL (some (k, x))) (now + t) W (by omega) hq)
  rw [he, hla] at DUE
  have hg : ¬ (t > 549755813888 - now) := by omega
  clear h hd hix hsb he hla hqe
  go_enter Tryz.func81, Tryz.ntmps81
  go_wp2_with fail
  with_reducible refine DN.out.mono ?_
  rintro e w1 ⟨rfl, rfl⟩
  go_upto_region 6 with fail
  obtain ⟨w2, hw2⟩ : ∃ w2, w.setCell ⟨sb, 24, none⟩ (.int .i64 (now + t)) = w2 := ⟨_, rfl⟩
  have ff := fS w sb 24 (.int .i64 (now + t))
  have H2 := hid (show StB w2 sb tb cb qb dp ev l lv ob nx (now + t) by rw [<- hw2]; exact uB H.out _)
  have F2 := hid (show Fr (fun j => j = sb) w w2 by rw [<- hw2]; exact ff)
  have I2 := hid (HI.out.fr F2.out (fun j hj e => HSB.out (by rw [<- e]; exact hj)))
  rw [hw2]
  clear hw2 ff c24 f24
  have D2 := hid (DUE.out w2.drew (I2.out.q.frame (T := fun _ => False) (Fr.of_below (Below.refl _ _).drew) (fun _ _ f => f)))
  have K2 := hid (show ∀ W, Fr R w2 W -> W.cell? ⟨sb, 2, none⟩ = some (.pointer (some ⟨qb, 0, none⟩)) /\ W.cell? ⟨sb, 24, none⟩ = some (.int .i64 (now + t)) from fun W hW =>
    have e := (hW.block sb (lB H2.out) (fun hj => HSB.out (.inr (.inr hj)))).trans H2.out
    ⟨qB e, qB e⟩)
  have K2d := hid (K2.out w2.drew (Fr.of_below (Below.refl _ _).drew))
  have hl2 := lB H2.out
  go_region_held3 (fun w' => w'.cell? ⟨sb, 2, none⟩ = some (.pointer (some ⟨qb, 0, none⟩)) /\ w'.cell? ⟨sb, 24, none⟩ = some (.int .i64 (now + t))) (first | with_reducible exact hS3 | with_reducible exact K2d.out)
    (first
      | ((go_at_call 148); (with_reducible refine D2.out.mono ?_); (rintro e x3 ⟨sl, rfl, hsl, q3, f3⟩); (have hS3 := K2.out _ (fr_undrew f3)); (obtain ⟨sg, sc, scur, rfl, hsg, hsh, hsc⟩ := own_one hsl)))
  have f3' := fr_undrew f3
  have H3 := hid (H2.out.fr f3' (fun hj => HSB.out (.inr (.inr hj))))
  have I3 := hid (show IxQ x3 tb cb qb (some (k, x)) [] N P Q R from ⟨I2.out.t.fr f3' (fun j hp hr => I2.out.pr j hp hr), I2.out.c.frame f3' (fun j hq hr => I2.out.qr j hq hr), q3, I2.out.pq, I2.out.pr, I2.out.qr⟩)
  have F3 := hid (show Fr (fun j => j = sb \/ ixF P Q R j) w x3 from (F2.out.mono (fun j _ hj => .inl hj)).trans f3' (fun j hj => .inl (.inr (.inr (.inr hj)))))
  have hsc0 : x3.cell? ⟨sg, 0, none⟩ = some (.string k) := hsc 0 (by omega)
  have hsgl := lB hsh
  have IR := hid (iremove1 sb tb cb qb N k x x3 P Q R (qB (i := 0) H3.out) (qB (i := 1) H3.out) (qB (i := 2) H3.out) [] rfl I3.out HSB.out hk hN w0 w1)
  clear hsl q3 f3 f3' hS3 hsc hsh
  have hl3 := lB H3.out
  go_wp2_with fail
  go_loopw [41] (fun i wr => (i = .int .i64 0 /\ wr = x3) \/ (i = .int .i64 1 /\ ∃ P' Q' R', StB wr sb tb cb qb dp ev l lv ob nx (now + t) /\ Ix wr tb cb qb none N P' Q' R' /\ Fr (fun j => j = sb \/ ixF P Q R j) w wr /\ ∀ j, ixF P' Q' R' j -> ixF P Q R j \/ w.heap.size <= j)) (fun i _ => 1 - (intOf i).toNat)
  case atStart => exact .inl ⟨rfl, rfl⟩
  case round =>
    rcases hrel with ⟨rfl, rfl⟩ | ⟨rfl, P', Q', R', g1, g2, g3, g4⟩
    · go_wp2_with fail
      with_reducible refine IR.out.mono ?_
      rintro e x4 ⟨rfl, P', Q', R', i4, f4, e4⟩
      have G := hid (show StB x4 sb tb cb qb dp ev l lv ob nx (now + t) /\ Ix x4 tb cb qb none N P' Q' R' /\ Fr (fun j => j = sb \/ ixF P Q R j) w x4 /\ ∀ j, ixF P' Q' R' j -> ixF P Q R j \/ w.heap.size <= j from ⟨H3.out.fr f4 HSB.out, i4, F3.out.trans f4 (fun j hj => .inl (.inr hj)), fun j hj => (e4 j hj).imp id (fun h => Nat.le_trans F3.out.size h)⟩)
      clear i4 f4 e4
      go_wp2_with fail
      go_roundw
      case rel => exact .inr ⟨by go_num, P', Q', R', G.out⟩
      case measure => simp [intOf]
    · have G := hid (And.intro g1 (And.intro g2 (And.intro g3 g4)))
      clear g1 g2 g3 g4
      go_wp2_with fail
      go_ret
      exact ⟨rfl, P', Q', R', G.out⟩
section
variable {w w' : World} {T : Nat -> Int} {xb kb sb tb cb qb dp ib mb cap n wn N rb pb tk : Nat} {g hi se rj : Int} {c : Nat -> Nat} {k : Nat} {D : DataW Nat} {S : List (List Int)} {l : Lay} {now : Int} {m : Option (ByteArray × Ent)} {P Q R : Nat -> Prop} {lv sv : Value} {st : List Int} {col : Nat -> Nat}
theorem Ss1.tick (h : Ss1 w T sb tb cb qb dp ib mb cap n D S wn l now m N P Q R lv rb pb st tk sv col) {now' : Int} {m' : Option (ByteArray × Ent)} {N' : Nat} {P' Q' R' : Nat -> Prop} (hf : Fr (fun j => j = sb \/ ixF P Q R j) w w') (hs : StB w' sb tb cb qb dp 0 l lv (some rb) 2 now') (hi : Ix w' tb cb qb m' N' P' Q' R') (hn : ∀ j, ixF P' Q' R' j -> ixF P Q R j \/ w.heap.size <= j) :
    Ss1 w' T sb tb cb qb dp ib mb cap n D S wn l now' m' N' P' Q' R' lv rb pb st tk sv (paint w w' 1 col) /\ CStep w w' col (paint w w' 1 col) := by
  have cc : ∀ j, j = sb \/ ixF P Q R j -> col j = 5 \/ col j = 1 := fun j hj => hj.imp (fun e => by rw [e]; exact h.k5) (h.k1 j)
  have ne : ∀ j c, col j = c -> c ≠ 1 -> c ≠ 5 -> ¬ (j = sb \/ ixF P Q R j) := fun j c e h1 h5 hj => by have := cc j hj; omega
  exact ⟨⟨hs, hi, h.dv.fr hf (fun j hj => ne _ _ (h.k2 j hj) (by omega) (by omega)), own_fr h.lr hf (fun b hb => ne _ _ (h.k4 b hb) (by omega) (by omega)), h.rg.fr hf (fun j hj => ne _ _ (h.k3 j hj) (by omega) (by omega)), h.ct.fr hf (ne _ _ h.kz (by omega) (by omega)), paint_out hf.size h.k0, (paint_old h.ct.lt).trans h.kz, paint_foot h.k1 h.ix.lt hn hi.lt, paint_keep h.k2 h.dv.lt, paint_keep h.k3 h.rg.lt, fun b hb => (paint_old (h.lr4 b hb).1).trans (h.k4 b hb), (paint_old (lB h.sto)).trans h.k5⟩, CStep.paint hf (fun j hj => by have := cc j hj; omega)⟩
theorem Ss1.sync (h : Ss1 w T sb tb cb qb dp ib mb cap n D S wn l now m N P Q R lv rb pb st tk sv col) {n' wn' tk' : Nat} {D' : DataW Nat} {S' : List (List Int)} {st' : List Int} {sv' : Value} (hf : Fr (fun j => pkF pb sv j \/ devF dp ib mb j) w w') (hd : Dev w' dp ib mb cap n' D' S' wn') (hr : Rgn w' rb dp pb (hd1 l) l st' tk' sv') (hn : ∀ b, sv'.ownBlock = some b -> sv.ownBlock = some b \/ w.heap.size <= b) :
    Ss1 w' T sb tb cb qb dp ib mb cap n' D' S' wn' l now m N P Q R lv rb pb st' tk' sv' (paint w w' 3 col) /\ CStep w w' col (paint w w' 3 col) := by
  have cc : ∀ j, pkF pb sv j \/ devF dp ib mb j -> col j = 3 \/ col j = 2 := fun j hj => hj.imp (fun e => h.k3 j (.inr e)) (h.k2 j)
  have ne : ∀ j c, col j = c -> c ≠ 2 -> c ≠ 3 -> ¬ (pkF pb sv j \/ devF dp ib mb j) := fun j c e h1 h5 hj => by have := cc j hj; omega
  refine ⟨⟨h.sto.fr hf (ne _ _ h.k5 (by omega) (by omega)), h.ix.fr hf (fun j hj => ne _ _ (h.k1 j hj) (by omega) (by omega)), hd, own_fr h.lr hf (fun b hb => ne _ _ (h.k4 b hb) (by omega) (by omega)), hr, h.ct.fr hf (ne _ _ h.kz (by omega) (by omega)), paint_out hf.size h.k0, (paint_old h.ct.lt).trans h.kz, paint_keep h.k1 h.ix.lt, paint_keep h.k2 h.dv.lt, ?_, fun b hb => (paint_old (h.lr4 b hb).1).trans (h.k4 b hb), (paint_old (lB h.sto)).trans h.k5⟩, CStep.paint hf (fun j hj => by have := cc j hj; omega)⟩
  refine paint_foot h.k3 h.rg.lt (fun j hj => ?_) hr.lt
  rcases hj with e | e | e
  · exact .inl (.inl e)
  · exact .inl (.inr (.inl e))
  · exact (hn j e).imp (fun q => .inr (.inr q)) id
theorem Ss1.dis (h : Ss1 w T sb tb cb qb dp ib mb cap n D S wn l now m N P Q R lv rb pb st tk sv col) : (¬ ixF P Q R sb) /\ (¬ devF dp ib mb sb) /\ (∀ j, regF rb pb sv j -> ¬ devF dp ib mb j) /\ (0 < pb /\ ∀ j, pkF pb sv j -> 0 < j) /\ (∀ j, devF dp ib mb j -> 0 < j) := by
  have z : ∀ j c, col j = c -> c ≠ 0 -> 0 < j := fun j c e hc => Nat.pos_of_ne_zero (fun q => by rw [q, h.kz] at e; exact hc e.symm)
  refine ⟨fun q => by have a := h.k1 _ q; have b := h.k5; omega, fun q => by have a := h.k2 _ q; have b := h.k5; omega, fun j a b => by have c := h.k3 _ a; have d := h.k2 _ b; omega, ⟨z pb 3 (h.k3 pb (.inr (.inl rfl))) (by omega), fun j hj => z j 3 (h.k3 j (.inr hj)) (by omega)⟩, fun j hj => z j 2 (h.k2 j hj) (by omega)⟩
theorem ctick0 (t : Int) (key : ByteArray) (x : Ent) (hs : Ss1 w T sb tb cb qb dp ib mb cap n D S wn l now (some (key, x)) N P Q R lv rb pb st tk sv col) (h : CaS w xb sb kb g hi se rj c k col) (n0 : 0 <= now) (t0 : 0 <= t) (nt : now + t <= 549755813888) (hN : N <= 1000000) (hx : now + t < x.exp) :
    Calls prog 23 #[.pointer (some ⟨xb, 0, none⟩), .int .i64 t] w fun e w' => e = .returned (.int .i64 0) /\ ∃ col', Ss1 w' T sb tb cb qb dp ib mb cap n D S wn l (now + t) (some (key, x)) N P Q R lv rb pb st tk sv col' /\ CaS w' xb sb kb g hi se rj c k col' /\ KStep w w' xb kb col col' := by
  have hq : quL (some (key, x)) = [⟨key, x.exp⟩] := by unfold quL; simp only; rw [if_neg (by omega)]
  have he : Q18.early (quL (some (key, x))) (now + t) = [] := by rw [hq]; unfold Q18.early; simp [List.takeWhile_cons]; omega
  have hla : Q18.late (quL (some (key, x))) (now + t) = quL (some (key, x)) := by rw [hq]; unfold Q18.late; simp [List.dropWhile_cons]; omega
  have DN := hid (cdown8 xb sb kb tb cb qb dp ib mb cap n D S wn g hi se rj 0 l lv (some rb) 2 now w h.ca hs.sto hs.dv)
  have TK := hid (stick0 sb tb cb qb dp ib mb cap n N D S wn 0 l lv (some rb) 2 now t _ _ P Q R w hs.sto hs.dv hs.ix hs.dis.1 hs.dis.2.1 n0 t0 nt hN he hla)
  have c0 : w.cell? ⟨xb, 0, none⟩ = some (.pointer (some ⟨sb, 0, none⟩)) := qB (i := 0) h.ca
  have hl := h.lt.1
  have HS := hid hs
  have HC := hid h
  clear hs h he hla hq
  go_enter Tryz.func23, Tryz.ntmps23
  go_wp2_with fail
  with_reducible refine DN.out.mono ?_
  rintro e w1 ⟨rfl, rfl⟩
  go_wp2_with fail
  with_reducible refine TK.out.mono ?_
  rintro e w2 ⟨rfl, s2, i2, f2⟩
  obtain ⟨a, b⟩ := HS.out.tick (f2.mono (fun j _ hj => hj.imp id (fun q => .inr (.inr q)))) s2 i2 (fun j hj => .inl hj)
  have FIN := hid (And.intro a (And.intro (HC.out.step b) (KStep.of (xb := xb) (kb := kb) b)))
  clear s2 i2 f2 a b
  go_wp2_with fail
  go_ret
  exact ⟨rfl, _, FIN.out⟩
theorem ctick1 (t : Int) (key : ByteArray) (x : Ent) (hs : Ss1 w T sb tb cb qb dp ib mb cap n D S wn l now (some (key, x)) N P Q R lv rb pb st tk sv col) (h : CaS w xb sb kb g hi se rj c k col) (n0 : 0 <= now) (t0 : 0 <= t) (nt : now + t <= 549755813888) (hN : N <= 1000) (hk : key.size <= 255) (w0 : (Lit.int .i64 x.seq).wf = true) (w1 : (Lit.int .i64 x.off).wf = true) (x1 : 1 <= x.exp) (hx : x.exp <= now + t) :
    Calls prog 23 #[.pointer (some ⟨xb, 0, none⟩), .int .i64 t] w fun e w' => e = .returned (.int .i64 0) /\ ∃ P' Q' R' col', Ss1 w' T sb tb cb qb dp ib mb cap n D S wn l (now + t) none N P' Q' R' lv rb pb st tk sv col' /\ CaS w' xb sb kb g hi se rj c k col' /\ KStep w w' xb kb col col' := by
  have DN := hid (cdown8 xb sb kb tb cb qb dp ib mb cap n D S wn g hi se rj 0 l lv (some rb) 2 now w h.ca hs.sto hs.dv)
  have TK := hid (stick1 sb tb cb qb dp ib mb cap n N D S wn 0 l lv (some rb) 2 now t key x P Q R w hs.sto hs.dv hs.ix hs.dis.1 hs.dis.2.1 n0 t0 nt hN (by unfold maxLen; omega) w0 w1 x1 hx)
  have c0 : w.cell? ⟨xb, 0, none⟩ = some (.pointer (some ⟨sb, 0, none⟩)) := qB (i := 0) h.ca
  have hl := h.lt.1
  have HS := hid hs
  have HC := hid h
  clear hs h
  go_enter Tryz.func23, Tryz.ntmps23
  go_wp2_with fail
  with_reducible refine DN.out.mono ?_
  rintro e w1 ⟨rfl, rfl⟩
  go_wp2_with fail
  with_reducible refine TK.out.mono ?_
  rintro e w2 ⟨rfl, P', Q', R', s2, i2, f2, n2⟩
  obtain ⟨a, b⟩ := HS.out.tick f2 s2 i2 n2
  have FIN := hid (And.intro a (And.intro (HC.out.step b) (KStep.of (xb := xb) (kb := kb) b)))
  clear s2 i2 f2 n2 a b
  go_wp2_with fail
  go_ret
  exact ⟨rfl, _, _, _, _, FIN.out⟩
theorem csync1 (hs : Ss1 w T sb tb cb qb dp ib mb cap n D S wn l now m N P Q R lv rb pb st 0 sv col) (h : CaS w xb sb kb g hi se rj c k col) (hf : formB l = true) (h0 : 0 < st.length) (h1 : st.length <= 59) (hS : 75 < S.length) (hwr : wn + 1 <= 1000000) :
    Calls prog 19 #[.pointer (some ⟨xb, 0, none⟩)] w fun e w' => e = .returned (.int .i64 0) /\ ∃ n' sv' col', Ss1 w' T sb tb cb qb dp ib mb cap n' (.map []) (S.set 75 (frameE (crcF T) 2 1 75 ((st ++ List.replicate (padN st.length) 0).take 59))) (wn + 1) l now m N P Q R lv rb pb (st ++ List.replicate (padN st.length) 0) 1 sv' col' /\ CaS w' xb sb kb g hi se rj c k col' /\ KStep w w' xb kb col col' := by
  have hfi : firstD l (hd1 l).slot = ((74 : Nat) : Int) := by rw [show (hd1 l).slot = ((0 : Nat) : Int) from rfl, firstD_nat hf 0 (by have := formB_rng hf; omega)]; simp
  have DN := hid (cdown8 xb sb kb tb cb qb dp ib mb cap n D S wn g hi se rj 0 l lv (some rb) 2 now w h.ca hs.sto hs.dv)
  have SY := hid (ssync8 T sb tb cb qb rb dp pb ib mb cap n D S wn 74 0 (hd1 l) l l lv 2 now st 0 sv w hs.sto hs.rg hs.dv hs.ct (by omega) (by omega) hfi (by omega) hwr hs.dis.2.2.1 hs.dis.2.2.2.1 hs.dis.2.2.2.2)
  have c0 : w.cell? ⟨xb, 0, none⟩ = some (.pointer (some ⟨sb, 0, none⟩)) := qB (i := 0) h.ca
  have hl := h.lt.1
  have HS := hid hs
  have HC := hid h
  clear hs h hfi
  go_enter Tryz.func19, Tryz.ntmps19
  go_wp2_with fail
  with_reducible refine DN.out.mono ?_
  rintro e w1 ⟨rfl, rfl⟩
  go_wp2_with fail
  with_reducible refine SY.out.mono ?_
  rintro e w2 ⟨rfl, n2, sv2, d2, r2, f2, n2'⟩
  obtain ⟨a, b⟩ := HS.out.sync f2 d2 r2 n2'
  have FIN := hid (And.intro a (And.intro (HC.out.step b) (KStep.of (xb := xb) (kb := kb) b)))
  clear d2 r2 f2 n2' a b
  go_wp2_with fail
  go_ret
  exact ⟨rfl, _, _, _, FIN.out⟩
end
theorem hkey8 (a : Option Addr) (n cap : Nat) (bs : List Int) (w : World) (h : Rd8 w a n cap bs) (hn : n <= 9223372036854775807) : ∃ h9 : Int, 0 <= h9 /\ h9 < 18446744073709551616 /\ ∀ W, Rd8 W a n cap bs -> Calls prog 74 #[.slice a n cap] W fun e w' => e = .returned (.int .u64 h9) /\ W = w' := by
  refine ⟨hfin (hf bs n), ?_, ?_, fun W hW => hash8 a n cap bs W hn hW.el⟩
  · unfold hfin; refine (hl_rng _ ?_).1; unfold hm; rw [wrap_u64]; omega
  · unfold hfin; refine (hl_rng _ ?_).2; unfold hm; rw [wrap_u64]; omega
section
variable {w w' : World} {T : Nat -> Int} {xb kb sb tb cb qb dp ib mb cap n wn N rb pb tk : Nat} {g hi se rj : Int} {c : Nat -> Nat} {k : Nat} {D : DataW Nat} {S : List (List Int)} {l : Lay} {now : Int} {m : Option (ByteArray × Ent)} {P Q R : Nat -> Prop} {lv sv : Value} {st : List Int} {col : Nat -> Nat}
def Aside (xb kb : Nat) (col : Nat -> Nat) (a : Option Addr) : Prop := ∀ ad, a = some ad -> col ad.block = 0 /\ ad.block ≠ xb /\ ad.block ≠ kb
theorem Aside.rd {a : Option Addr} {an ac : Nat} {bs : List Int} {col' : Nat -> Nat} (h : Rd8 w a an ac bs) (hs : Aside xb kb col a) (k : KStep w w' xb kb col col') : Rd8 w' a an ac bs := h.fr k.fr (fun ad e q => by
  obtain ⟨h1, h2, h3⟩ := hs ad e
  exact q.elim (fun q => q h1) (fun q => q.elim h2 h3))
theorem Aside.rd0 {a : Option Addr} {an ac : Nat} {bs : List Int} {col' : Nat -> Nat} (h : Rd8 w a an ac bs) (hs : 0 < an -> Aside xb kb col a) (k : KStep w w' xb kb col col') : Rd8 w' a an ac bs := by
  rcases Nat.eq_zero_or_pos an with q | q
  · exact ⟨h.len, fun i hi => by omega, h.cap_le, h.nil, h.byt⟩
  · exact Aside.rd h (hs q) k
theorem Aside.step {a : Option Addr} {an ac : Nat} {bs : List Int} {col' : Nat -> Nat} (h : Rd8 w a an ac bs) (h0 : 0 < an) (hs : Aside xb kb col a) (k : KStep w w' xb kb col col') : Aside xb kb col' a := fun ad e => by
  obtain ⟨b, off, e', hb, _⟩ := h.el 0 h0
  rw [e] at e'
  cases e'
  obtain ⟨h1, h2, h3⟩ := hs _ e
  exact ⟨(k.old _ hb).trans h1, h2, h3⟩
theorem cget1 (ka : Option Addr) (kn kc vn ln : Nat) (r : Rec) (ht : Bool) (bs : List Int) (hs : Ss1 w T sb tb cb qb dp ib mb cap n D S wn l now (some (strOfNums bs, ⟨1, 0, ((16 + ln + vn : Nat) : Int), r.exp, ht⟩)) N P Q R lv rb pb (recE T l.ver 1 0 r) tk sv col) (h : CaS w xb sb kb g hi se rj c k col)
    (hk : Rd8 w ka kn kc bs) (k0 : 1 <= kn) (k1 : kn <= 255) (hka : Aside xb kb col ka) (hc : recChk l.ver r = 0) (hkn : r.key.length = ln) (hvn : r.val.length = vn) (hN : N <= 1000) (g9 : g + 1 <= 1000) (h9 : hi + 1 <= 1000) :
    Calls prog 24 #[.pointer (some ⟨xb, 0, none⟩), .slice ka kn kc] w fun e w' => ∃ a' c' P' c2 k2 col', e = .returned (.tuple #[.slice a' vn c', .bool true, .int .i64 0]) /\ Own8 w.heap.size w' (.slice a' vn c') r.val /\ Ss1 w' T sb tb cb qb dp ib mb cap n D S wn l now (some (strOfNums bs, ⟨1, 0, ((16 + ln + vn : Nat) : Int), r.exp, true⟩)) (N + 1) P' Q R lv rb pb (recE T l.ver 1 0 r) tk sv col' /\ CaS w' xb sb kb (g + 1) (hi + 1) se rj c2 k2 col' /\ KStep w w' xb kb col col' := by
  have CKY := hid (ckey8 xb sb kb tb cb qb dp ib mb cap n D S wn g hi se rj 0 l lv (some rb) 2 now ka kn kc w h.ca hs.sto hs.dv k0 k1)
  obtain ⟨hh, hh0, hh1, hash⟩ := hkey8 ka kn kc bs w hk (by omega)
  have HH := hid (hash w.drew (hk.below (Below.refl _ _).drew (Nat.le_refl _)))
  have TO := hid (S19.touch7 kb hh c k w.drew hh0 hh1 (sk_below h.sk (Below.refl _ _).drew) h.c15 h.k640)
  unfold S19.NoRes at TO
  have hkl := hk.len
  have hl := h.lt.1
  have KX := hid (show ∀ W, Fr (fun j => j = kb) w W -> W.cell? ⟨xb, 0, none⟩ = some (.pointer (some ⟨sb, 0, none⟩)) /\ W.cell? ⟨xb, 1, none⟩ = some (.pointer (some ⟨kb, 0, none⟩)) from fun W hW =>
    have e := (hW.block xb h.lt.1 h.ne).trans h.ca
    ⟨qB e, qB e⟩)
  have K0 := hid (KX.out w.drew (Fr.refl _ _).drew)
  have HS := hid hs
  have HC := hid h
  have HK := hid hk
  have KA := hid hka
  have HCK := hid hc
  have HKN := hid hkn
  have HVN := hid hvn
  obtain ⟨rl, hrl⟩ : ∃ q, 16 + ln + vn = q := ⟨_, rfl⟩
  rw [hrl] at HS ⊢
  have HRL := hid hrl
  obtain ⟨key, hkey⟩ : ∃ q, strOfNums bs = q := ⟨_, rfl⟩
  have HKS := hid (show key.size <= 255 by rw [<- hkey, nums_size]; omega)
  rw [hkey] at HS ⊢
  have HKEY := hid hkey
  clear hs h hk hka hc hkn hvn hrl hkey hash hkl
  go_enter Tryz.func24, Tryz.ntmps24
  go_wp2_with fail
  with_reducible refine CKY.out.mono ?_
  rintro e x0 ⟨rfl, rfl⟩
  go_upto_region 4 with fail
  go_region_held3 (fun w' => w'.cell? ⟨xb, 0, none⟩ = some (.pointer (some ⟨sb, 0, none⟩)) /\ w'.cell? ⟨xb, 1, none⟩ = some (.pointer (some ⟨kb, 0, none⟩))) (first | with_reducible exact hS2 | with_reducible exact K0.out)
    (first
      | ((go_at_call 75); (with_reducible refine TO.out.mono ?_); (rintro e x2 ⟨rfl, sk2, gr2⟩); (have hG2 := (⟨gr2.os, gr2.tape, gr2.output, gr2.size, gr2.block⟩ : w.grownBy x2 (some kb))); (have hF2 := (cas_t HC.out sk2 hG2).2.2); (have hS2 := KX.out _ hF2))
      | ((go_at_call 74); (with_reducible refine HH.out.mono ?_); (rintro e x1 ⟨rfl, rfl⟩)))
  obtain ⟨ca2, ks2, -⟩ := cas_t HC.out sk2 hG2
  have s2 := HS.out.fr hF2 (fun j hj => by rw [hj]; exact ⟨HC.out.kk, by have := HC.out.kp; omega⟩) (k0_mono HS.out.k0 hF2.size)
  have A2 := hid (aadd8 xb 2 g x2 (qB (i := 2) ca2.ca) (zB (i := 2) ca2.ca) HC.out.gb.1 (by omega))
  obtain ⟨s3, ca3, ks3⟩ := cas_g s2 ca2 g9
  have hl2 := ca2.lt.1
  have S3 := hid s3
  have CA3 := hid ca3
  have KS3 := hid (ks2.trans ks3)
  clear sk2 gr2 hG2 hF2 hS2 ca2 ks2 s2 s3 ca3 ks3 TO HH CKY
  go_wp2_with fail
  with_reducible refine A2.out.mono ?_
  rintro e x3 ⟨rfl, hx3⟩
  rw [<- hx3] at S3 CA3 KS3
  clear hx3 A2
  have e0 : x3.cell? ⟨xb, 0, none⟩ = some (.pointer (some ⟨sb, 0, none⟩)) := qB (i := 0) CA3.out.ca
  have HK3 := hid (Aside.rd HK.out KA.out KS3.out)
  have CV := conv_bytes (HK3.out.below (Below.refl _ _).drew (Nat.le_refl _))
  rw [HKEY.out] at CV
  have GE := hid (sget1 key r ln vn ht (w := x3.drew) (by have := S3.out.below (Below.refl _ _).drew; rw [HRL.out]; exact this) HKS.out HCK.out HKN.out HVN.out hN)
  rw [HRL.out] at GE
  have K3 := hid (show ∀ W (col' : Nat -> Nat), CStep x3.drew W col col' -> W.cell? ⟨xb, 0, none⟩ = some (.pointer (some ⟨sb, 0, none⟩)) /\ (convert 33 9 (.slice ka kn kc)).run prog W = .ok (.string key) W from fun W col' hW => ⟨(hW.cell (b := xb) CA3.out.lt.1 CA3.out.kx 0).trans e0, HKEY.out ▸ conv_bytes (Aside.rd (HK3.out.below (Below.refl _ _).drew (Nat.le_refl _)) KA.out (KStep.of (xb := xb) (kb := kb) hW))⟩)
  have KD3 := hid (show x3.drew.cell? ⟨xb, 0, none⟩ = some (.pointer (some ⟨sb, 0, none⟩)) /\ (convert 33 9 (.slice ka kn kc)).run prog x3.drew = .ok (.string key) x3.drew from ⟨e0, CV⟩)
  clear CV
  have hl3 := CA3.out.lt.1
  go_upto_region 6 with fail
  go_region_held3 (fun w' => w'.cell? ⟨xb, 0, none⟩ = some (.pointer (some ⟨sb, 0, none⟩)) /\ (convert 33 9 (.slice ka kn kc)).run prog w' = .ok (.string key) w') (first | with_reducible exact hS4 | with_reducible exact KD3.out)
    (first
      | ((go_at_call 83); (with_reducible refine GE.out.mono ?_); (rintro e x4 ⟨a4, c4, P4, col4, rfl, ho4, s4, cs4⟩); (have hS4 := K3.out _ _ cs4)))
  have CS4 := hid ((CStep.below ((Below.refl x3.heap.size x3).drew)).trans cs4)
  have ca4 := CA3.out.step CS4.out
  have A4 := hid (aadd8 xb 3 hi x4 (qB (i := 3) ca4.ca) (zB (i := 3) ca4.ca) HC.out.hb.1 (by omega))
  obtain ⟨s5, ca5, ks5⟩ := cas_h s4 ca4 h9
  have o5 : Own8 w.heap.size (x4.setCell ⟨xb, 3, none⟩ (.int .i64 (hi + 1))) (.slice a4 vn c4) r.val := ⟨own_fr (ho4.mono (show w.heap.size <= _ from KS3.out.fr.size)).own (fS x4 xb 3 _) (fun b hb hj => by
    have h1 := (ho4.own.lt b hb).1
    have h2 := hl3
    have h3 : x3.heap.size <= b := h1
    omega), ho4.byt⟩
  have FIN := hid (And.intro o5 (And.intro s5 (And.intro ca5 (KS3.out.trans ((KStep.of (xb := xb) (kb := kb) CS4.out).trans ks5)))))
  have hl4 := ca4.lt.1
  clear ho4 s4 cs4 hS4 ca4 s5 ca5 ks5 o5 GE e0
  go_wp2_with fail
  with_reducible refine A4.out.mono ?_
  rintro e x5 ⟨rfl, hx5⟩
  rw [<- hx5] at FIN
  clear hx5 A4
  go_wp2_with fail
  go_ret3
  exact ⟨_, _, _, _, _, _, rfl, FIN.out⟩
theorem cget0 (ka : Option Addr) (kn kc : Nat) (bs : List Int) (hs : Ss1 w T sb tb cb qb dp ib mb cap n D S wn l now none N P Q R lv rb pb st tk sv col) (h : CaS w xb sb kb g hi se rj c k col)
    (hk : Rd8 w ka kn kc bs) (k0 : 1 <= kn) (k1 : kn <= 255) (hka : Aside xb kb col ka) (g9 : g + 1 <= 1000) :
    Calls prog 24 #[.pointer (some ⟨xb, 0, none⟩), .slice ka kn kc] w fun e w' => ∃ P' c2 k2 col', e = .returned (.tuple #[.slice none 0 0, .bool false, .int .i64 0]) /\ Ss1 w' T sb tb cb qb dp ib mb cap n D S wn l now none N P' Q R lv rb pb st tk sv col' /\ CaS w' xb sb kb (g + 1) hi se rj c2 k2 col' /\ KStep w w' xb kb col col' := by
  have CKY := hid (ckey8 xb sb kb tb cb qb dp ib mb cap n D S wn g hi se rj 0 l lv (some rb) 2 now ka kn kc w h.ca hs.sto hs.dv k0 k1)
  obtain ⟨hh, hh0, hh1, hash⟩ := hkey8 ka kn kc bs w hk (by omega)
  have HH := hid (hash w.drew (hk.below (Below.refl _ _).drew (Nat.le_refl _)))
  have TO := hid (S19.touch7 kb hh c k w.drew hh0 hh1 (sk_below h.sk (Below.refl _ _).drew) h.c15 h.k640)
  unfold S19.NoRes at TO
  have hkl := hk.len
  have hl := h.lt.1
  have KX := hid (show ∀ W, Fr (fun j => j = kb) w W -> W.cell? ⟨xb, 0, none⟩ = some (.pointer (some ⟨sb, 0, none⟩)) /\ W.cell? ⟨xb, 1, none⟩ = some (.pointer (some ⟨kb, 0, none⟩)) from fun W hW =>
    have e := (hW.block xb h.lt.1 h.ne).trans h.ca
    ⟨qB e, qB e⟩)
  have K0 := hid (KX.out w.drew (Fr.refl _ _).drew)
  have HS := hid hs
  have HC := hid h
  have HK := hid hk
  have KA := hid hka
  obtain ⟨key, hkey⟩ : ∃ q, strOfNums bs = q := ⟨_, rfl⟩
  have HKS := hid (show key.size <= 255 by rw [<- hkey, nums_size]; omega)
  have HKEY := hid hkey
  clear hs h hk hka hkey hash hkl
  go_enter Tryz.func24, Tryz.ntmps24
  go_wp2_with fail
  with_reducible refine CKY.out.mono ?_
  rintro e x0 ⟨rfl, rfl⟩
  go_upto_region 4 with fail
  go_region_held3 (fun w' => w'.cell? ⟨xb, 0, none⟩ = some (.pointer (some ⟨sb, 0, none⟩)) /\ w'.cell? ⟨xb, 1, none⟩ = some (.pointer (some ⟨kb, 0, none⟩))) (first | with_reducible exact hS2 | with_reducible exact K0.out)
    (first
      | ((go_at_call 75); (with_reducible refine TO.out.mono ?_); (rintro e x2 ⟨rfl, sk2, gr2⟩); (have hG2 := (⟨gr2.os, gr2.tape, gr2.output, gr2.size, gr2.block⟩ : w.grownBy x2 (some kb))); (have hF2 := (cas_t HC.out sk2 hG2).2.2); (have hS2 := KX.out _ hF2))
      | ((go_at_call 74); (with_reducible refine HH.out.mono ?_); (rintro e x1 ⟨rfl, rfl⟩)))
  obtain ⟨ca2, ks2, -⟩ := cas_t HC.out sk2 hG2
  have s2 := HS.out.fr hF2 (fun j hj => by rw [hj]; exact ⟨HC.out.kk, by have := HC.out.kp; omega⟩) (k0_mono HS.out.k0 hF2.size)
  have A2 := hid (aadd8 xb 2 g x2 (qB (i := 2) ca2.ca) (zB (i := 2) ca2.ca) HC.out.gb.1 (by omega))
  obtain ⟨s3, ca3, ks3⟩ := cas_g s2 ca2 g9
  have hl2 := ca2.lt.1
  have S3 := hid s3
  have CA3 := hid ca3
  have KS3 := hid (ks2.trans ks3)
  clear sk2 gr2 hG2 hF2 hS2 ca2 ks2 s2 s3 ca3 ks3 TO HH CKY
  go_wp2_with fail
  with_reducible refine A2.out.mono ?_
  rintro e x3 ⟨rfl, hx3⟩
  rw [<- hx3] at S3 CA3 KS3
  clear hx3 A2
  have e0 : x3.cell? ⟨xb, 0, none⟩ = some (.pointer (some ⟨sb, 0, none⟩)) := qB (i := 0) CA3.out.ca
  have HK3 := hid (Aside.rd HK.out KA.out KS3.out)
  have CV := conv_bytes (HK3.out.below (Below.refl _ _).drew (Nat.le_refl _))
  rw [HKEY.out] at CV
  have GE := hid (sget0 key (S3.out.below (Below.refl _ _).drew) HKS.out)
  have K3 := hid (show ∀ W (col' : Nat -> Nat), CStep x3.drew W col col' -> W.cell? ⟨xb, 0, none⟩ = some (.pointer (some ⟨sb, 0, none⟩)) /\ (convert 33 9 (.slice ka kn kc)).run prog W = .ok (.string key) W from fun W col' hW => ⟨(hW.cell (b := xb) CA3.out.lt.1 CA3.out.kx 0).trans e0, HKEY.out ▸ conv_bytes (Aside.rd (HK3.out.below (Below.refl _ _).drew (Nat.le_refl _)) KA.out (KStep.of (xb := xb) (kb := kb) hW))⟩)
  have KD3 := hid (show x3.drew.cell? ⟨xb, 0, none⟩ = some (.pointer (some ⟨sb, 0, none⟩)) /\ (convert 33 9 (.slice ka kn kc)).run prog x3.drew = .ok (.string key) x3.drew from ⟨e0, CV⟩)
  clear CV
  have hl3 := CA3.out.lt.1
  go_upto_region 6 with fail
  go_region_held3 (fun w' => w'.cell? ⟨xb, 0, none⟩ = some (.pointer (some ⟨sb, 0, none⟩)) /\ (convert 33 9 (.slice ka kn kc)).run prog w' = .ok (.string key) w') (first | with_reducible exact hS4 | with_reducible exact KD3.out)
    (first
      | ((go_at_call 83); (with_reducible refine GE.out.mono ?_); (rintro e x4 ⟨P4, col4, rfl, s4, cs4⟩); (have hS4 := K3.out _ _ cs4)))
  have CS4 := hid ((CStep.below ((Below.refl x3.heap.size x3).drew)).trans cs4)
  have ca4 := CA3.out.step CS4.out
  have FIN := hid (And.intro s4 (And.intro ca4 (KS3.out.trans (KStep.of (xb := xb) (kb := kb) CS4.out))))
  clear s4 cs4 hS4 ca4 GE e0
  go_wp2_with fail
  go_ret3
  exact ⟨_, _, _, _, rfl, FIN.out⟩
end
end Go.Proofs.YtbikkioipamlmaaGreatDoor
