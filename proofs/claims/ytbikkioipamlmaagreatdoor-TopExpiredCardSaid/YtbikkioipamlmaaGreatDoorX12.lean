/-
  Laws and contracts for the statement TopExpired.
-/
import Derived.Test.YtbikkioipamlmaaGreatDoorX09
open Go.Lib (hid)
open Go.Proofs.Tryz (prog)
set_option linter.unusedVariables false
set_option linter.unusedSimpArgs false
set_option maxRecDepth 100000
set_option maxHeartbeats 20000000
namespace Go.Proofs.YtbikkioipamlmaaGreatDoor
open Go.RowKit
theorem sdec8 (T : Nat -> Int) (a : Option Addr) (n cap : Nat) (bs : List Int) (s : Sup) (sector : Int) (w : World) (h : CrcT T w) (hr : Rd8 w a n cap bs) (h0 : 0 <= sector) (h1 : sector < 1048576) (hs : Stab s) (hv : supB s = true) (hbs : bs = supE (crcF T) sector s) :
    Calls prog 86 #[.slice a n cap, .int .i64 sector] w fun e w' => e = .returned (.tuple #[.agg ⟨Sup.vals s (.slice none 0 0)⟩, .bool true]) /\ Below w.heap.size w w' := by
  have H := hid h
  have HR := hid hr
  have hl := supP_length s
  have hfd : frameD (crcF T) 3 0 sector bs = some (supP s ++ List.replicate (59 - (supP s).length) 0) := by rw [hbs]; exact frameD_E (by omega) ⟨by omega, by omega, by omega, h0, h1⟩
  have FD := hid (fun (W : World) (hT : CrcT T W) (hR : Rd8 W a n cap bs) => fdec8 T 3 0 sector a n cap bs W hT hR (by unfold possP; omega) (by omega))
  obtain ⟨⟨g0, g1, m0, m1, t0, t1, n0, n1⟩, hf, _⟩ := supB_parts hv
  have SE := hid (fun (W : World) (hT : CrcT T W) => senc8 T s sector W hs hv hT h0 h1)
  have HBS := hid hbs
  obtain ⟨g, p, m, t, nw, l, hm, fr⟩ := s
  obtain ⟨rfl, rfl, rfl⟩ := hs
  simp only at g0 g1 m0 m1 t0 t1 n0 n1
  obtain ⟨q7, hq7⟩ : ∃ q7, (List.replicate (59 - (supP ⟨g, 1, m, t, nw, l, lay0, []⟩).length) 0 : List Int) = q7 := ⟨_, rfl⟩
  have hp0 : supP ⟨g, 1, m, t, nw, l, lay0, []⟩ ++ q7 = beN g 5 ++ ([1] ++ (beN m 4 ++ (beN t 6 ++ (beN nw 5 ++ (layE l ++ (layE lay0 ++ ([0] ++ q7))))))) := by
    simp [supP, supF]
  rw [hq7, hp0] at hfd
  have hpl := (frameD_some hfd).2.2.1
  obtain ⟨q6, hq6⟩ : ∃ q6, layE lay0 ++ ([0] ++ q7) = q6 := ⟨_, rfl⟩
  rw [hq6] at hfd hpl
  obtain ⟨q5, hq5⟩ : ∃ q5, layE l ++ q6 = q5 := ⟨_, rfl⟩
  rw [hq5] at hfd hpl
  obtain ⟨q4, hq4⟩ : ∃ q4, beN nw 5 ++ q5 = q4 := ⟨_, rfl⟩
  rw [hq4] at hfd hpl
  obtain ⟨q3, hq3⟩ : ∃ q3, beN t 6 ++ q4 = q3 := ⟨_, rfl⟩
  rw [hq3] at hfd hpl
  obtain ⟨q2, hq2⟩ : ∃ q2, beN m 4 ++ q3 = q2 := ⟨_, rfl⟩
  rw [hq2] at hfd hpl
  obtain ⟨q1, hq1⟩ : ∃ q1, [1] ++ q2 = q1 := ⟨_, rfl⟩
  rw [hq1] at hfd hpl
  obtain ⟨q0, hq0⟩ : ∃ q0, beN g 5 ++ q1 = q0 := ⟨_, rfl⟩
  rw [hq0] at hfd hpl
  rw [hfd] at FD
  have one : ∀ x : Int, beV [x] = x := fun x => by simp [beV]
  have X1 := hid (show ∀ (w0 : World) (rb b G : Nat) (W : World), Rs w0 rb b G q0 W -> _ from fun w0 rb b G W hR => Rs.num (p := beN g 5) (q := q1) (by rw [hq0]; exact hR) g 5 5 (bL _ _) (beV_self (by omega) (by omega)) (by omega) (by omega) rfl)
  have X2 := hid (show ∀ (w0 : World) (rb b G : Nat) (W : World), Rs w0 rb b G q1 W -> _ from fun w0 rb b G W hR => Rs.num (p := [1]) (q := q2) (by rw [hq1]; exact hR) 1 1 1 rfl (one 1) (by omega) (by omega) rfl)
  have X3 := hid (show ∀ (w0 : World) (rb b G : Nat) (W : World), Rs w0 rb b G q2 W -> _ from fun w0 rb b G W hR => Rs.num (p := beN m 4) (q := q3) (by rw [hq2]; exact hR) m 4 4 (bL _ _) (beV_self (by omega) (by omega)) (by omega) (by omega) rfl)
  have X4 := hid (show ∀ (w0 : World) (rb b G : Nat) (W : World), Rs w0 rb b G q3 W -> _ from fun w0 rb b G W hR => Rs.num (p := beN t 6) (q := q4) (by rw [hq3]; exact hR) t 6 6 (bL _ _) (beV_self (by omega) (by omega)) (by omega) (by omega) rfl)
  have X5 := hid (show ∀ (w0 : World) (rb b G : Nat) (W : World), Rs w0 rb b G q4 W -> _ from fun w0 rb b G W hR => Rs.num (p := beN nw 5) (q := q5) (by rw [hq4]; exact hR) nw 5 5 (bL _ _) (beV_self (by omega) (by omega)) (by omega) (by omega) rfl)
  have X6 := hid (show ∀ (w0 : World) (rb b G : Nat) (W : World), Rs w0 rb b G q5 W -> _ from fun w0 rb b G W hR => Rs.lay (q := q6) l (by rw [hq5]; exact hR) (.inl hf))
  have X7 := hid (show ∀ (w0 : World) (rb b G : Nat) (W : World), Rs w0 rb b G q6 W -> _ from fun w0 rb b G W hR => Rs.lay (q := [0] ++ q7) lay0 (by rw [hq6]; exact hR) (.inr rfl))
  have X8 := hid (show ∀ (w0 : World) (rb b G : Nat) (W : World), Rs w0 rb b G ([0] ++ q7) W -> _ from fun w0 rb b G W hR => Rs.num (p := [0]) (q := q7) hR 0 1 1 rfl (one 0) (by omega) (by omega) rfl)
  obtain ⟨a2, b2, c2, d2⟩ := l
  simp only [Sup.vals, lay0] at *
  have PL := hid hpl
  clear h hr hv hbs hf hl hp0 hfd hpl hq0 hq1 hq2 hq3 hq4 hq5 hq6 hq7 one
  go_enter Tryz.func86, Tryz.ntmps86
  go_wp2_with fail
  with_reducible refine (FD.out _ (H.out.below (B := w.heap.size) ((Below.refl _ _).alloc (Nat.le_refl _) _) H.out.lt) (HR.out.below (B := w.heap.size) ((Below.refl _ _).alloc (Nat.le_refl _) _) (Nat.le_refl _))).mono ?_
  rintro e w1 ⟨v, rfl, hb, ho⟩
  simp only [Option.isSome_some]
  obtain ⟨a1, c1, rfl, hr1⟩ := (ho q0 rfl).rd
  rw [PL.out] at hr1 ⊢
  have R1 := hid hr1
  have B1 := hid hb
  clear hb ho hr1
  go_wp2_with fail
  with_reducible refine (newrd8 a1 59 c1 q0 _ R1.out (by omega) (by omega)).mono ?_
  rintro e w2 ⟨b, G, rfl, hrd, hbl, hbG, hGl, hb2⟩
  have hbl2 := hrd.lt
  have B2 := hid (tB B1.out hb2)
  have hb2s := hb2.size
  obtain ⟨w3, hw3⟩ : ∃ w3, w2.alloc (.cells #[.pointer (some ⟨b, 0, none⟩)] 274) = w3 := ⟨_, rfl⟩
  have hG3 : G < w2.heap.size := hGl
  have hs3 : w3.heap.size = w2.heap.size + 1 := by rw [<- hw3]; simp
  have B3 := hid (show Below w2.heap.size w2 w3 by rw [<- hw3]; exact (Below.refl _ _).alloc (Nat.le_refl _) _)
  have RS0 := hid (show Rs w3 w2.heap.size b G q0 w3.drew from (Rs.mk (by rw [<- hw3]; exact qB (nB w2 _)) (hrd.below B3.out) (by omega) (by rw [<- hw3]; simp) (by omega) (Fr.refl _ _) : Rs w3 w2.heap.size b G q0 w3).below ((Below.refl _ _).drew))
  have HRL := hid (show Rs w3 w2.heap.size b G q0 w3 from Rs.mk (by rw [<- hw3]; exact qB (nB w2 _)) (hrd.below B3.out) (by omega) (by rw [<- hw3]; simp) (by omega) (Fr.refl _ _))
  have RS0A := hid (show ∀ o : Obj, Rs w3 w2.heap.size b G q0 (w3.alloc o).drew from fun o => HRL.out.below (((Below.refl _ _).alloc (Nat.le_refl _) _).drew))
  have KS0 := hid RS0.out.cel
  have HON := hid (show ((#[.int .i64 g, .int .i64 1, .int .i64 m, .int .i64 t, .int .i64 nw, .int .i64 a2, .int .i64 b2, .int .i64 c2, .int .i64 d2, .int .i64 0, .int .i64 0, .int .i64 0, .int .i64 0, .slice none 0 0] : Array Value).all (·.oneCell')) = true from by simp [Value.oneCell'])
  have HSZ := hid (show (#[.int .i64 0, .int .i64 0, .int .i64 0, .int .i64 0, .int .i64 0, .int .i64 0, .int .i64 0, .int .i64 0, .int .i64 0, .int .i64 0, .int .i64 0, .int .i64 0, .int .i64 0, .slice none 0 0] : Array Value).size = (#[.int .i64 g, .int .i64 1, .int .i64 m, .int .i64 t, .int .i64 nw, .int .i64 a2, .int .i64 b2, .int .i64 c2, .int .i64 d2, .int .i64 0, .int .i64 0, .int .i64 0, .int .i64 0, .slice none 0 0] : Array Value).size from rfl)
  have SZ := hid (show (prog.info? 58).map (·.size) = some (#[.int .i64 g, .int .i64 1, .int .i64 m, .int .i64 t, .int .i64 nw, .int .i64 a2, .int .i64 b2, .int .i64 c2, .int .i64 d2, .int .i64 0, .int .i64 0, .int .i64 0, .int .i64 0, .slice none 0 0] : Array Value).size from by kernel_rfl)
  have HLT := hid (show w2.heap.size < w3.heap.size /\ G < w3.heap.size from ⟨by omega, by omega⟩)
  clear hb2 hs3
  go_wp2_with fail
  (try rw [hw3])
  clear hw3
  go_cut [10] (fun v10 wx => ∃ xb, v10 = .pointer (some ⟨xb, 0, none⟩) /\ wx.heap[xb]? = some (.cells #[.int .i64 g, .int .i64 1, .int .i64 m, .int .i64 t, .int .i64 nw, .int .i64 a2, .int .i64 b2, .int .i64 c2, .int .i64 d2, .int .i64 0, .int .i64 0, .int .i64 0, .int .i64 0, .slice none 0 0] 58 (0, 0)) /\ Rs w3 w2.heap.size b G ([0] ++ q7) wx /\ ¬ (xb = b))
  case first =>
    go_region_held3 (fun w' => w'.cell? ⟨w2.heap.size, 0, none⟩ = some (.pointer (some ⟨b, 0, none⟩))) (first | with_reducible exact KS0.out | with_reducible exact (r7.set (set14 hal.blk _ _ _ _ _ _ _ _ _ _ _ _ _ _).2 hal.ge HLT.out.1 HLT.out.2 hal.ne).cel | with_reducible exact hS7 | with_reducible exact hS6 | with_reducible exact hS5 | with_reducible exact hS4 | with_reducible exact hS3 | with_reducible exact hS2 | with_reducible exact hS1 | with_reducible exact (RS0A.out _).cel | with_reducible exact (r7.alloc _).cel | with_reducible exact (r6.alloc _).cel | with_reducible exact (r5.alloc _).cel | with_reducible exact (r4.alloc _).cel | with_reducible exact (r3.alloc _).cel | with_reducible exact (r2.alloc _).cel | with_reducible exact (r1.alloc _).cel | go_keep)
      (first
        | ((go_at_call 160); (with_reducible refine (X7.out _ _ _ _ _ (r6.alloc _)).mono ?_); (rintro e x7 ⟨rfl, r7, f7⟩); (have hS7 := r7.cel); (have hal := al_new f7 r6); (obtain ⟨Y, hY, hF⟩ := al_Y hal); (simp only [List.size_toArray, List.length_cons, List.length_nil, Nat.reduceAdd] at hY))
        | ((go_at_call 160); (with_reducible refine (X7.out _ _ _ _ _ r6).mono ?_); (rintro e x7 ⟨rfl, r7, f7⟩); (have hS7 := r7.cel); (first | ((have hal := al_step f7 hal); (obtain ⟨Y, hY, hF⟩ := al_Y hal); (simp only [List.size_toArray, List.length_cons, List.length_nil, Nat.reduceAdd] at hY)) | skip))
        | ((go_at_call 160); (with_reducible refine (X6.out _ _ _ _ _ (r5.alloc _)).mono ?_); (rintro e x6 ⟨rfl, r6, f6⟩); (have hS6 := r6.cel); (have hal := al_new f6 r5))
        | ((go_at_call 160); (with_reducible refine (X6.out _ _ _ _ _ r5).mono ?_); (rintro e x6 ⟨rfl, r6, f6⟩); (have hS6 := r6.cel); (first | (have hal := al_step f6 hal) | skip))
        | ((go_at_call 158); (with_reducible refine (X5.out _ _ _ _ _ (r4.alloc _)).mono ?_); (rintro e x5 ⟨rfl, r5, f5⟩); (have hS5 := r5.cel); (have hal := al_new f5 r4))
        | ((go_at_call 158); (with_reducible refine (X5.out _ _ _ _ _ r4).mono ?_); (rintro e x5 ⟨rfl, r5, f5⟩); (have hS5 := r5.cel); (first | (have hal := al_step f5 hal) | skip))
        | ((go_at_call 158); (with_reducible refine (X4.out _ _ _ _ _ (r3.alloc _)).mono ?_); (rintro e x4 ⟨rfl, r4, f4⟩); (have hS4 := r4.cel); (have hal := al_new f4 r3))
        | ((go_at_call 158); (with_reducible refine (X4.out _ _ _ _ _ r3).mono ?_); (rintro e x4 ⟨rfl, r4, f4⟩); (have hS4 := r4.cel); (first | (have hal := al_step f4 hal) | skip))
        | ((go_at_call 158); (with_reducible refine (X3.out _ _ _ _ _ (r2.alloc _)).mono ?_); (rintro e x3 ⟨rfl, r3, f3⟩); (have hS3 := r3.cel); (have hal := al_new f3 r2))
        | ((go_at_call 158); (with_reducible refine (X3.out _ _ _ _ _ r2).mono ?_); (rintro e x3 ⟨rfl, r3, f3⟩); (have hS3 := r3.cel); (first | (have hal := al_step f3 hal) | skip))
        | ((go_at_call 158); (with_reducible refine (X2.out _ _ _ _ _ (r1.alloc _)).mono ?_); (rintro e x2 ⟨rfl, r2, f2⟩); (have hS2 := r2.cel); (have hal := al_new f2 r1))
        | ((go_at_call 158); (with_reducible refine (X2.out _ _ _ _ _ r1).mono ?_); (rintro e x2 ⟨rfl, r2, f2⟩); (have hS2 := r2.cel); (first | (have hal := al_step f2 hal) | skip))
        | ((go_at_call 158); (with_reducible refine (X1.out _ _ _ _ _ (RS0A.out _)).mono ?_); (rintro e x1 ⟨rfl, r1, f1⟩); (have hS1 := r1.cel); (have hal := al_newd f1 HRL.out))
        | ((go_at_call 158); (with_reducible refine (X1.out _ _ _ _ _ RS0.out).mono ?_); (rintro e x1 ⟨rfl, r1, f1⟩); (have hS1 := r1.cel); (first | (have hal := al_step f1 hal) | skip)))
    all_goals
      go_wp2_with fail
      go_meet
      first
        | exact ⟨_, rfl, (set14 hal.blk _ _ _ _ _ _ _ _ _ _ _ _ _ _).1, r7.set (set14 hal.blk _ _ _ _ _ _ _ _ _ _ _ _ _ _).2 hal.ge HLT.out.1 HLT.out.2 hal.ne, hal.ne⟩
        | exact ⟨_, rfl, nB x7 _, r7.alloc _, fun e => by have := r7.rd.lt; omega⟩
  case rest =>
    obtain ⟨xb, rfl, hxb, hRs, hxn⟩ := hcut
    obtain ⟨wq, rfl⟩ : ∃ q, q = wc := ⟨_, rfl⟩
    have hxl := lB hxb
    have FR := hid hRs.fr
    have XB := hid hxb
    have c8 := hRs.cel
    have CALL := hid (X8.out _ _ _ _ _ hRs)
    clear hxb hRs X1 X2 X3 X4 X5 X6 X7 X8 RS0 RS0A KS0 HRL
    have HLS := hid (show w.heap.size < w1.heap.size by have := B1.out.size; simp at this; omega)
    have HZ := hid (show wq.heap[w.heap.size]? = some (.cells #[.int .i64 0, .int .i64 0, .int .i64 0, .int .i64 0, .int .i64 0, .int .i64 0, .int .i64 0, .int .i64 0, .int .i64 0, .int .i64 0, .int .i64 0, .int .i64 0, .int .i64 0, .slice none 0 0] 58 (0, 0)) from by
      have h1 := HLS.out
      have h2 := B2.out.size
      have h3 := B3.out.size
      rw [FR.out.block _ (by omega) (by omega), B3.out.block _ (by have := hb2s; omega), B2.out.block _ (by simp)]
      exact nB w _)
    have SE2 := hid (show ∀ W, CrcT T W -> Calls prog 161 #[.agg #[.int .i64 g, .int .i64 1, .int .i64 m, .int .i64 t, .int .i64 nw, .int .i64 a2, .int .i64 b2, .int .i64 c2, .int .i64 d2, .int .i64 0, .int .i64 0, .int .i64 0, .int .i64 0, .slice none 0 0], .int .i64 sector] W _ from fun W hT => SE.out W hT)
    go_wp2_with fail
    with_reducible refine CALL.out.mono ?_
    rintro e x8 ⟨rfl, r8, f8⟩
    have F8 := hid (FR.out.trans f8 (fun j hj => .inl hj))
    have HX8 := hid ((f8.block xb hxl hxn).trans XB.out)
    have HZ8 := hid ((f8.block w.heap.size (lB HZ.out) (by have := HLS.out; omega)).trans HZ.out)
    have dd0 := qB (i := 0) HX8.out
    have dd1 := qB (i := 1) HX8.out
    have dd2 := qB (i := 2) HX8.out
    have dd3 := qB (i := 3) HX8.out
    have dd4 := qB (i := 4) HX8.out
    have dd5 := qB (i := 5) HX8.out
    have dd6 := qB (i := 6) HX8.out
    have dd7 := qB (i := 7) HX8.out
    have dd8 := qB (i := 8) HX8.out
    have dd9 := qB (i := 9) HX8.out
    have dd10 := qB (i := 10) HX8.out
    have dd11 := qB (i := 11) HX8.out
    have dd12 := qB (i := 12) HX8.out
    have dd13 := qB (i := 13) HX8.out
    have BW8 := hid (show Below w.heap.size w x8 from by
      have h1 := HLS.out
      have h2 := B3.out.size
      have q1 : Below w.heap.size w w2 := tB ((Below.refl _ _).alloc (Nat.le_refl _) _) B2.out
      have q2 : Below w.heap.size w w3 := tB q1 B3.out
      exact q2.trans ⟨F8.out.os, F8.out.tape, F8.out.output, F8.out.size, fun k hk => F8.out.block k (by have := q2.size; omega) (by omega)⟩)
    have T8 := hid (H.out.below BW8.out H.out.lt)
    clear f8 r8 c8
    go_wp2_with fail
    with_reducible refine (SE2.out _ T8.out).mono ?_
    rintro e x9 ⟨a9, c9, rfl, ho9, hb9⟩
    obtain ⟨_, _, he9, hr9⟩ := ho9.rd
    rw [<- HBS.out] at ho9
    have R9 := hid (show Rd8 x9 a9 64 c9 bs from by
      obtain ⟨q, qc, he, hr⟩ := ho9.rd
      have hbl : bs.length = 64 := by injection he with e1 e2 e3; exact e2.symm
      rw [hbl] at he hr
      cases he
      exact hr)
    have RB9 := hid (HR.out.below (tB BW8.out hb9) (Nat.le_refl _))
    have BW9 := hid (tB BW8.out hb9)
    have HX9 := hid ((hb9.block xb (lB HX8.out)).trans HX8.out)
    have HZ9 := hid ((hb9.block w.heap.size (lB HZ8.out)).trans HZ8.out)
    clear he9 hr9 ho9 hb9 dd0 dd1 dd2 dd3 dd4 dd5 dd6 dd7 dd8 dd9 dd10 dd11 dd12 dd13
    have dd0 := qB (i := 0) HX9.out
    have dd1 := qB (i := 1) HX9.out
    have dd2 := qB (i := 2) HX9.out
    have dd3 := qB (i := 3) HX9.out
    have dd4 := qB (i := 4) HX9.out
    have dd5 := qB (i := 5) HX9.out
    have dd6 := qB (i := 6) HX9.out
    have dd7 := qB (i := 7) HX9.out
    have dd8 := qB (i := 8) HX9.out
    have dd9 := qB (i := 9) HX9.out
    have dd10 := qB (i := 10) HX9.out
    have dd11 := qB (i := 11) HX9.out
    have dd12 := qB (i := 12) HX9.out
    have dd13 := qB (i := 13) HX9.out
    have z0 := qB (i := 0) HZ9.out
    have y0 := zB (i := 0) HZ9.out
    have z1 := qB (i := 1) HZ9.out
    have y1 := zB (i := 1) HZ9.out
    have z2 := qB (i := 2) HZ9.out
    have y2 := zB (i := 2) HZ9.out
    have z3 := qB (i := 3) HZ9.out
    have y3 := zB (i := 3) HZ9.out
    have z4 := qB (i := 4) HZ9.out
    have y4 := zB (i := 4) HZ9.out
    have z5 := qB (i := 5) HZ9.out
    have y5 := zB (i := 5) HZ9.out
    have z6 := qB (i := 6) HZ9.out
    have y6 := zB (i := 6) HZ9.out
    have z7 := qB (i := 7) HZ9.out
    have y7 := zB (i := 7) HZ9.out
    have z8 := qB (i := 8) HZ9.out
    have y8 := zB (i := 8) HZ9.out
    have z9 := qB (i := 9) HZ9.out
    have y9 := zB (i := 9) HZ9.out
    have z10 := qB (i := 10) HZ9.out
    have y10 := zB (i := 10) HZ9.out
    have z11 := qB (i := 11) HZ9.out
    have y11 := zB (i := 11) HZ9.out
    have z12 := qB (i := 12) HZ9.out
    have y12 := zB (i := 12) HZ9.out
    have z13 := qB (i := 13) HZ9.out
    have y13 := zB (i := 13) HZ9.out
    go_wp2_with fail
    with_reducible refine (equal8 a9 a 64 c9 n cap bs bs _ R9.out RB9.out).mono ?_
    rintro e x10 ⟨rfl, rfl⟩
    simp only [decide_true]
    go_wp2_with (with_reducible refine bodyPost_ret (results_cell2 rfl _ _ w.heap.size _ _ _ _ rfl (set14 HZ9.out _ _ _ _ _ _ _ _ _ _ _ _ _ _).1 Tryz.underlying58 rfl (by kernel_rfl)) rfl ?_)
    exact sB (sB (sB (sB (sB (sB (sB (sB (sB (sB (sB (sB (sB (sB BW9.out (Nat.le_refl _)) (Nat.le_refl _)) (Nat.le_refl _)) (Nat.le_refl _)) (Nat.le_refl _)) (Nat.le_refl _)) (Nat.le_refl _)) (Nat.le_refl _)) (Nat.le_refl _)) (Nat.le_refl _)) (Nat.le_refl _)) (Nat.le_refl _)) (Nat.le_refl _)) (Nat.le_refl _)
theorem sdec_none8 (T : Nat -> Int) (a : Option Addr) (n cap : Nat) (bs : List Int) (sector : Int) (w : World) (h : CrcT T w) (hr : Rd8 w a n cap bs) (h0 : 0 <= sector) (h1 : sector < 1048576) (hn : frameD (crcF T) 3 0 sector bs = none) :
    Calls prog 86 #[.slice a n cap, .int .i64 sector] w fun e w' => e = .returned (.tuple #[.agg #[.int .i64 0, .int .i64 0, .int .i64 0, .int .i64 0, .int .i64 0, .int .i64 0, .int .i64 0, .int .i64 0, .int .i64 0, .int .i64 0, .int .i64 0, .int .i64 0, .int .i64 0, .slice none 0 0], .bool false]) /\ Below w.heap.size w w' := by
  have H := hid h
  have HR := hid hr
  have FD := hid (fun (W : World) (hT : CrcT T W) (hR : Rd8 W a n cap bs) => fdec8 T 3 0 sector a n cap bs W hT hR (by unfold possP; omega) (by omega))
  rw [hn] at FD
  clear h hr hn
  go_enter Tryz.func86, Tryz.ntmps86
  go_wp2_with fail
  with_reducible refine (FD.out _ (H.out.below (B := w.heap.size) ((Below.refl _ _).alloc (Nat.le_refl _) _) H.out.lt) (HR.out.below (B := w.heap.size) ((Below.refl _ _).alloc (Nat.le_refl _) _) (Nat.le_refl _))).mono ?_
  rintro e w1 ⟨v, rfl, hb, _⟩
  simp only [Option.isSome_none]
  have hlt : w.heap.size < w1.heap.size := by have := hb.size; simp at this; omega
  have BW := hid (tB ((Below.refl w.heap.size w).alloc (Nat.le_refl _) _) hb)
  have HZ := hid ((hb.block w.heap.size (by simp)).trans (nB w _))
  clear hb
  have z0 := qB (i := 0) HZ.out
  have y0 := zB (i := 0) HZ.out
  have z1 := qB (i := 1) HZ.out
  have y1 := zB (i := 1) HZ.out
  have z2 := qB (i := 2) HZ.out
  have y2 := zB (i := 2) HZ.out
  have z3 := qB (i := 3) HZ.out
  have y3 := zB (i := 3) HZ.out
  have z4 := qB (i := 4) HZ.out
  have y4 := zB (i := 4) HZ.out
  have z5 := qB (i := 5) HZ.out
  have y5 := zB (i := 5) HZ.out
  have z6 := qB (i := 6) HZ.out
  have y6 := zB (i := 6) HZ.out
  have z7 := qB (i := 7) HZ.out
  have y7 := zB (i := 7) HZ.out
  have z8 := qB (i := 8) HZ.out
  have y8 := zB (i := 8) HZ.out
  have z9 := qB (i := 9) HZ.out
  have y9 := zB (i := 9) HZ.out
  have z10 := qB (i := 10) HZ.out
  have y10 := zB (i := 10) HZ.out
  have z11 := qB (i := 11) HZ.out
  have y11 := zB (i := 11) HZ.out
  have z12 := qB (i := 12) HZ.out
  have y12 := zB (i := 12) HZ.out
  have z13 := qB (i := 13) HZ.out
  have y13 := zB (i := 13) HZ.out
  go_wp2_with (with_reducible refine bodyPost_ret (results_cell2 rfl _ _ w.heap.size _ _ _ _ rfl (set14 HZ.out _ _ _ _ _ _ _ _ _ _ _ _ _ _).1 Tryz.underlying58 rfl (by kernel_rfl)) rfl ?_)
  exact sB (sB (sB (sB (sB (sB (sB (sB (sB (sB (sB (sB (sB (sB BW.out (Nat.le_refl _)) (Nat.le_refl _)) (Nat.le_refl _)) (Nat.le_refl _)) (Nat.le_refl _)) (Nat.le_refl _)) (Nat.le_refl _)) (Nat.le_refl _)) (Nat.le_refl _)) (Nat.le_refl _)) (Nat.le_refl _)) (Nat.le_refl _)) (Nat.le_refl _)) (Nat.le_refl _)
end Go.Proofs.YtbikkioipamlmaaGreatDoor
