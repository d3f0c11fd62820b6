/-
  Laws and contracts for the statement TopExpired.
-/
import Derived.Test.YtbikkioipamlmaaGreatDoorX10
import Derived.Test.YtbikkioipamlmaaGreatDoorX12
import Derived.Test.YtbikkioipamlmaaGreatDoorX13
open Go.Lib (hid)
open Go.Proofs.Tryz (prog)
set_option linter.unusedVariables false
set_option linter.unusedSimpArgs false
set_option maxRecDepth 100000
set_option maxHeartbeats 20000000
namespace Go.Proofs.YtbikkioipamlmaaGreatDoor
open Go.Maps Go.RowKit
theorem readDz (dp ib mb cap n : Nat) (D : DataW Nat) (S : List (List Int)) (wr : Nat) (i : Nat) (z : Int) (s : List Int) (w : World) (h : Dev w dp ib mb cap n D S wr) (hs : S[i]? = some s) (hz : z = (i : Int)) :
    Calls prog 85 #[.pointer (some ⟨dp, 0, none⟩), .int .i64 z] w fun e w' => ∃ a c, e = .returned (.tuple #[.slice a 64 c, .int .i64 0]) /\ Rd8 w' a 64 c s /\ Below w.heap.size w w' := by
  subst hz
  exact readD dp ib mb cap n D S wr i s w h hs
theorem sload8 (T : Nat -> Int) (dp ib mb cap n : Nat) (D : DataW Nat) (S : List (List Int)) (wn : Nat) (s : Sup) (w : World) (hd : Dev w dp ib mb cap n D S wn) (hT : CrcT T w) (hs : Stab s) (hv : supB s = true) (hg : s.gen % 2 = 1) (h0 : S[0]? = some (List.replicate 64 0)) (h1 : S[1]? = some (supE (crcF T) 1 s)) :
    Calls prog 28 #[.pointer (some ⟨dp, 0, none⟩)] w fun e w' => e = .returned (.tuple #[.agg ⟨Sup.vals s (.slice none 0 0)⟩, .bool true]) /\ Below w.heap.size w w' := by
  have g1 := (supB_parts hv).1.1
  have RD0 := hid (fun (W : World) (hD : Dev W dp ib mb cap n D S wn) => readDz dp ib mb cap n D S wn 0 0 _ W hD h0 rfl)
  have RD1 := hid (fun (W : World) (hD : Dev W dp ib mb cap n D S wn) => readDz dp ib mb cap n D S wn 1 1 _ W hD h1 rfl)
  have DC0 := hid (fun (W : World) (a : Option Addr) (c : Nat) (hT : CrcT T W) (hR : Rd8 W a 64 c (List.replicate 64 0)) => sdec_none8 T a 64 c _ 0 W hT hR (by omega) (by omega) (frameD_zero _ _ _ _ _))
  have DC1 := hid (fun (W : World) (a : Option Addr) (c : Nat) (hT : CrcT T W) (hR : Rd8 W a 64 c (supE (crcF T) 1 s)) => sdec8 T a 64 c _ s 1 W hT hR (by omega) (by omega) hs hv rfl)
  have PL := hid (fun W => place8 s.gen W g1)
  rw [hg] at PL
  obtain ⟨E, hE⟩ : ∃ E, supE (crcF T) 1 s = E := ⟨_, rfl⟩
  rw [hE] at RD1 DC1
  have HD := hid hd
  have HT := hid hT
  obtain ⟨g, p, m, t, nw, l, hm, fr⟩ := s
  obtain ⟨rfl, rfl, rfl⟩ := hs
  obtain ⟨a2, b2, c2, d2⟩ := l
  simp only [Sup.vals, lay0] at *
  have DC2 := hid (show ∀ (W : World) (a : Option Addr) (c : Nat), CrcT T W -> Rd8 W a 64 c E -> Calls prog 86 #[.slice a 64 c, .int .i64 1] W fun e w' => e = .returned (.tuple #[.agg #[.int .i64 g, .int .i64 1, .int .i64 m, .int .i64 t, .int .i64 nw, .int .i64 a2, .int .i64 b2, .int .i64 c2, .int .i64 d2, .int .i64 0, .int .i64 0, .int .i64 0, .int .i64 0, .slice none 0 0], .bool true]) /\ Below W.heap.size W w' from fun W a c hT hR => DC1.out W a c hT hR)
  clear hd hT hv hg h0 h1 hE DC1
  go_enter Tryz.func28, Tryz.ntmps28
  go_wp2_with fail
  obtain ⟨w0, hw0⟩ : ∃ w0, (w.alloc (.cells #[.int .i64 0, .int .i64 0, .int .i64 0, .int .i64 0, .int .i64 0, .int .i64 0, .int .i64 0, .int .i64 0, .int .i64 0, .int .i64 0, .int .i64 0, .int .i64 0, .int .i64 0, .slice none 0 0] 58)).alloc (.cells #[.int .i64 0, .int .i64 0, .int .i64 0, .int .i64 0, .int .i64 0, .int .i64 0, .int .i64 0, .int .i64 0, .int .i64 0, .int .i64 0, .int .i64 0, .int .i64 0, .int .i64 0, .slice none 0 0] 58) = w0 := ⟨_, rfl⟩
  have hs0 : w0.heap.size = w.heap.size + 1 + 1 := by rw [<- hw0]; simp
  have B0 := hid (show Below w.heap.size w w0 by rw [<- hw0]; exact ((Below.refl _ _).alloc (Nat.le_refl _) _).alloc (by simp) _)
  have HA0 := hid (show w0.heap[w.heap.size]? = some (.cells #[.int .i64 0, .int .i64 0, .int .i64 0, .int .i64 0, .int .i64 0, .int .i64 0, .int .i64 0, .int .i64 0, .int .i64 0, .int .i64 0, .int .i64 0, .int .i64 0, .int .i64 0, .slice none 0 0] 58 (0, 0)) by rw [<- hw0]; exact old_at (nB w _) _)
  have HB0 := hid (show w0.heap[w.heap.size + 1]? = some (.cells #[.int .i64 0, .int .i64 0, .int .i64 0, .int .i64 0, .int .i64 0, .int .i64 0, .int .i64 0, .int .i64 0, .int .i64 0, .int .i64 0, .int .i64 0, .int .i64 0, .int .i64 0, .slice none 0 0] 58 (0, 0)) by rw [<- hw0, has1 w (.cells #[.int .i64 0, .int .i64 0, .int .i64 0, .int .i64 0, .int .i64 0, .int .i64 0, .int .i64 0, .int .i64 0, .int .i64 0, .int .i64 0, .int .i64 0, .int .i64 0, .int .i64 0, .slice none 0 0] 58)]; exact nB _ _)
  have HS0 := hid hs0
  clear hs0
  rw [hw0]
  clear hw0
  go_loopw [12, 5] (fun i f wr => ∃ k : Int, (k = 0 \/ k = 1 \/ k = 2) /\ i = .int .i64 k /\ f = .bool (decide (k = 2)) /\ wr.heap[w.heap.size]? = some (.cells #[.int .i64 0, .int .i64 0, .int .i64 0, .int .i64 0, .int .i64 0, .int .i64 0, .int .i64 0, .int .i64 0, .int .i64 0, .int .i64 0, .int .i64 0, .int .i64 0, .int .i64 0, .slice none 0 0] 58 (0, 0)) /\ wr.heap[w.heap.size + 1]? = some (.cells (if k = 2 then #[.int .i64 g, .int .i64 1, .int .i64 m, .int .i64 t, .int .i64 nw, .int .i64 a2, .int .i64 b2, .int .i64 c2, .int .i64 d2, .int .i64 0, .int .i64 0, .int .i64 0, .int .i64 0, .slice none 0 0] else #[.int .i64 0, .int .i64 0, .int .i64 0, .int .i64 0, .int .i64 0, .int .i64 0, .int .i64 0, .int .i64 0, .int .i64 0, .int .i64 0, .int .i64 0, .int .i64 0, .int .i64 0, .slice none 0 0]) 58 (0, 0)) /\ Below w.heap.size w wr) (fun i _ _ => 2 - (intOf i).toNat)
  case atStart => exact ⟨0, .inl rfl, rfl, rfl, HA0.out, HB0.out, B0.out⟩
  case round =>
    obtain ⟨k, hk, rfl, rfl, ha, hb, hw⟩ := hrel
    have BW := hid hw
    have HA := hid ha
    have hs1 : w.heap.size + 1 < wr.heap.size := lB hb
    rcases hk with rfl | rfl | rfl
    · simp only [show ¬ ((0 : Int) = 2) from by omega, if_false] at hb
      have HB := hid hb
      have R := hid (RD0.out wr (HD.out.below hw))
      clear ha hb hw
      go_wp2_with fail
      with_reducible refine R.out.mono ?_
      rintro e x1 ⟨a1, c1, rfl, hr1, hb1⟩
      have X1 := hid hb1
      have DCx := hid (DC0.out x1 a1 c1 (HT.out.below (tB BW.out hb1) HT.out.lt) hr1)
      clear hr1 hb1
      go_wp2_with fail
      with_reducible refine DCx.out.mono ?_
      rintro e x2 ⟨rfl, hb2⟩
      have X2 := hid (tB X1.out hb2)
      have A2 := hid ((X2.out.block w.heap.size (by omega)).trans HA.out)
      have B2 := hid ((X2.out.block (w.heap.size + 1) hs1).trans HB.out)
      clear hb2
      go_wp2_with fail
      go_roundw
      case rel => exact ⟨1, .inr (.inl rfl), by go_num, rfl, old_at A2.out _, old_at B2.out _, (tB BW.out X2.out).alloc (tB BW.out X2.out).size _⟩
      case measure => simp [intOf]
    · simp only [show ¬ ((1 : Int) = 2) from by omega, if_false] at hb
      have HB := hid hb
      have R := hid (RD1.out wr (HD.out.below hw))
      clear ha hb hw
      go_wp2_with fail
      with_reducible refine R.out.mono ?_
      rintro e x1 ⟨a1, c1, rfl, hr1, hb1⟩
      have X1 := hid hb1
      have DCx := hid (DC2.out x1 a1 c1 (HT.out.below (tB BW.out hb1) HT.out.lt) hr1)
      clear hr1 hb1
      go_wp2_with fail
      with_reducible refine DCx.out.mono ?_
      rintro e x2 ⟨rfl, hb2⟩
      have X2 := hid (tB X1.out hb2)
      have A2 := hid ((X2.out.block w.heap.size (by omega)).trans HA.out)
      have B2 := hid ((X2.out.block (w.heap.size + 1) hs1).trans HB.out)
      have hs2 : w.heap.size + 1 < x2.heap.size := lB B2.out
      have qb0 := qB (i := 0) B2.out
      have qbf0 := zB (i := 0) B2.out
      have qb1 := qB (i := 1) B2.out
      have qbf1 := zB (i := 1) B2.out
      have qb2 := qB (i := 2) B2.out
      have qbf2 := zB (i := 2) B2.out
      have qb3 := qB (i := 3) B2.out
      have qbf3 := zB (i := 3) B2.out
      have qb4 := qB (i := 4) B2.out
      have qbf4 := zB (i := 4) B2.out
      have qb5 := qB (i := 5) B2.out
      have qbf5 := zB (i := 5) B2.out
      have qb6 := qB (i := 6) B2.out
      have qbf6 := zB (i := 6) B2.out
      have qb7 := qB (i := 7) B2.out
      have qbf7 := zB (i := 7) B2.out
      have qb8 := qB (i := 8) B2.out
      have qbf8 := zB (i := 8) B2.out
      have qb9 := qB (i := 9) B2.out
      have qbf9 := zB (i := 9) B2.out
      have qb10 := qB (i := 10) B2.out
      have qbf10 := zB (i := 10) B2.out
      have qb11 := qB (i := 11) B2.out
      have qbf11 := zB (i := 11) B2.out
      have qb12 := qB (i := 12) B2.out
      have qbf12 := zB (i := 12) B2.out
      have qb13 := qB (i := 13) B2.out
      have qbf13 := zB (i := 13) B2.out
      clear hb2
      go_wp2_with fail
      with_reducible refine (PL.out _).mono ?_
      rintro e x3 ⟨rfl, rfl⟩
      have hgg : (0 : Int) < g := by omega
      go_wp2_with fail
      go_roundw
      case rel => exact ⟨2, .inr (.inr rfl), by go_num, rfl, old_at ((set14 B2.out _ _ _ _ _ _ _ _ _ _ _ _ _ _).2.block _ (by omega) (by omega) |>.trans A2.out) _, old_at (set14 B2.out _ _ _ _ _ _ _ _ _ _ _ _ _ _).1 _, bel_al (sB (sB (sB (sB (sB (sB (sB (sB (sB (sB (sB (sB (sB (sB (tB BW.out X2.out) (Nat.le_succ _)) (Nat.le_succ _)) (Nat.le_succ _)) (Nat.le_succ _)) (Nat.le_succ _)) (Nat.le_succ _)) (Nat.le_succ _)) (Nat.le_succ _)) (Nat.le_succ _)) (Nat.le_succ _)) (Nat.le_succ _)) (Nat.le_succ _)) (Nat.le_succ _)) (Nat.le_succ _)) _⟩
      case measure => simp [intOf]
    · simp only [if_true] at hb
      have HB := hid hb
      have qb0 := qB (i := 0) HB.out
      have qbf0 := zB (i := 0) HB.out
      have qb1 := qB (i := 1) HB.out
      have qbf1 := zB (i := 1) HB.out
      have qb2 := qB (i := 2) HB.out
      have qbf2 := zB (i := 2) HB.out
      have qb3 := qB (i := 3) HB.out
      have qbf3 := zB (i := 3) HB.out
      have qb4 := qB (i := 4) HB.out
      have qbf4 := zB (i := 4) HB.out
      have qb5 := qB (i := 5) HB.out
      have qbf5 := zB (i := 5) HB.out
      have qb6 := qB (i := 6) HB.out
      have qbf6 := zB (i := 6) HB.out
      have qb7 := qB (i := 7) HB.out
      have qbf7 := zB (i := 7) HB.out
      have qb8 := qB (i := 8) HB.out
      have qbf8 := zB (i := 8) HB.out
      have qb9 := qB (i := 9) HB.out
      have qbf9 := zB (i := 9) HB.out
      have qb10 := qB (i := 10) HB.out
      have qbf10 := zB (i := 10) HB.out
      have qb11 := qB (i := 11) HB.out
      have qbf11 := zB (i := 11) HB.out
      have qb12 := qB (i := 12) HB.out
      have qbf12 := zB (i := 12) HB.out
      have qb13 := qB (i := 13) HB.out
      have qbf13 := zB (i := 13) HB.out
      have qa0 := qB (i := 0) HA.out
      have qaf0 := zB (i := 0) HA.out
      have qa1 := qB (i := 1) HA.out
      have qaf1 := zB (i := 1) HA.out
      have qa2 := qB (i := 2) HA.out
      have qaf2 := zB (i := 2) HA.out
      have qa3 := qB (i := 3) HA.out
      have qaf3 := zB (i := 3) HA.out
      have qa4 := qB (i := 4) HA.out
      have qaf4 := zB (i := 4) HA.out
      have qa5 := qB (i := 5) HA.out
      have qaf5 := zB (i := 5) HA.out
      have qa6 := qB (i := 6) HA.out
      have qaf6 := zB (i := 6) HA.out
      have qa7 := qB (i := 7) HA.out
      have qaf7 := zB (i := 7) HA.out
      have qa8 := qB (i := 8) HA.out
      have qaf8 := zB (i := 8) HA.out
      have qa9 := qB (i := 9) HA.out
      have qaf9 := zB (i := 9) HA.out
      have qa10 := qB (i := 10) HA.out
      have qaf10 := zB (i := 10) HA.out
      have qa11 := qB (i := 11) HA.out
      have qaf11 := zB (i := 11) HA.out
      have qa12 := qB (i := 12) HA.out
      have qaf12 := zB (i := 12) HA.out
      have qa13 := qB (i := 13) HA.out
      have qaf13 := zB (i := 13) HA.out
      clear ha hb hw
      go_wp2_with (with_reducible refine bodyPost_ret (results_cell2 rfl _ _ w.heap.size _ _ _ _ rfl (set14 HA.out _ _ _ _ _ _ _ _ _ _ _ _ _ _).1 Tryz.underlying58 rfl (by kernel_rfl)) rfl ?_)
      exact sB (sB (sB (sB (sB (sB (sB (sB (sB (sB (sB (sB (sB (sB (BW.out) (Nat.le_refl _)) (Nat.le_refl _)) (Nat.le_refl _)) (Nat.le_refl _)) (Nat.le_refl _)) (Nat.le_refl _)) (Nat.le_refl _)) (Nat.le_refl _)) (Nat.le_refl _)) (Nat.le_refl _)) (Nat.le_refl _)) (Nat.le_refl _)) (Nat.le_refl _)) (Nat.le_refl _)
def sup0 (l : Lay) : Sup := ⟨1, 1, 0, 1, 0, l, lay0, []⟩
theorem sup0_ok {l : Lay} (h : formB l = true) : supB (sup0 l) = true := by
  have : phaseB (sup0 l) = true := by unfold phaseB sup0; simp
  unfold supB
  rw [this]
  simp only [sup0, h]
  rfl
def secs0 (F : SumF) (n : Nat) (l : Lay) : List (List Int) := (List.replicate n (List.replicate 64 0)).set 1 (supE F 1 (sup0 l))
def wipedS (S : List (List Int)) (k : Nat) : List (List Int) := List.replicate k (List.replicate 64 0) ++ S.drop k
theorem wiped_length (S : List (List Int)) (k : Nat) (h : k <= S.length) : (wipedS S k).length = S.length := by simp [wipedS]; omega
theorem wiped_step (S : List (List Int)) (k : Nat) (h : k < S.length) : (wipedS S k).set k (pad64 []) = wipedS S (k + 1) := by
  have hz : pad64 [] = List.replicate 64 0 := rfl
  unfold wipedS
  rw [hz]
  generalize List.replicate 64 (0 : Int) = Z
  rw [List.set_append_right _ _ (by simp), List.length_replicate, Nat.sub_self, List.drop_eq_getElem_cons h, List.set_cons_zero, List.replicate_succ', List.append_assoc]
  rfl
theorem wiped_all (S : List (List Int)) : wipedS S S.length = List.replicate S.length (List.replicate 64 0) := by simp [wipedS]
theorem format8 (T : Nat -> Int) (dp ib mb cap n : Nat) (D : DataW Nat) (S : List (List Int)) (wr : Nat) (l : Lay) (w : World) (hd : Dev w dp ib mb cap n D S wr) (hl : formB l = true) (hfit : 74 + l.rg * l.rs <= (S.length : Int)) (hT : CrcT T w) (h2 : 2 <= S.length) (hwr : wr + S.length + 1 <= 1000000) (h0 : ∀ j, devF dp ib mb j -> 0 < j) :
    Calls prog 97 #[.pointer (some ⟨dp, 0, none⟩), .agg #[.int .i64 l.id, .int .i64 l.ver, .int .i64 l.rs, .int .i64 l.rg]] w fun e w' => e = .returned (.int .i64 0) /\ ∃ n', Dev w' dp ib mb cap n' (.map []) (secs0 (crcF T) S.length l) (wr + S.length + 1) /\ Fr (devF dp ib mb) w w' := by
  have HD := hid hd
  have HT := hid hT
  have HL := hid hl
  obtain ⟨id, ver, rs, rg⟩ := l
  simp only at *
  clear hd hT
  obtain ⟨w1, hw1⟩ : ∃ w1, w.alloc (.cells #[.int .i64 id, .int .i64 ver, .int .i64 rs, .int .i64 rg] 26) = w1 := ⟨_, rfl⟩
  have B1 := hid (show Below w.heap.size w w1 by rw [<- hw1]; exact (Below.refl _ _).alloc (Nat.le_refl _) _)
  have HK := hid (show w1.heap[w.heap.size]? = some (.cells #[.int .i64 id, .int .i64 ver, .int .i64 rs, .int .i64 rg] 26 (0, 0)) by rw [<- hw1]; exact nB w _)
  have hws : w.heap.size < w1.heap.size := lB HK.out
  have D1 := hid (HD.out.below B1.out)
  have k0 := qB (i := 0) HK.out; have k1 := qB (i := 1) HK.out; have k2 := qB (i := 2) HK.out; have k3 := qB (i := 3) HK.out
  simp only [List.getElem?_toArray, List.getElem?_cons_zero, List.getElem?_cons_succ] at k0 k1 k2 k3
  have KB := hid (show ∀ W, Below w1.heap.size w1 W -> W.cell? ⟨w.heap.size, 0, none⟩ = some (.int .i64 id) /\ W.cell? ⟨w.heap.size, 1, none⟩ = some (.int .i64 ver) /\ W.cell? ⟨w.heap.size, 2, none⟩ = some (.int .i64 rs) /\ W.cell? ⟨w.heap.size, 3, none⟩ = some (.int .i64 rg) from fun W hW => ⟨((bcell hW).1 _ _ hws).trans k0, ((bcell hW).1 _ _ hws).trans k1, ((bcell hW).1 _ _ hws).trans k2, ((bcell hW).1 _ _ hws).trans k3⟩)
  have KB0 := hid (KB.out _ (Below.refl _ w1).drew)
  have D1d := hid (D1.out.below (Below.refl _ w1).drew)
  have SC := hid (sectorsD dp ib mb cap n D S wr _ D1d.out)
  have FI := hid (fun W => fits15 id ver rs rg (S.length : Int) W)
  have hfi : fitsB ⟨id, ver, rs, rg⟩ (S.length : Int) = true := by unfold fitsB; rw [hl]; simp; exact hfit
  rw [hfi] at FI
  clear hfi hfit hl
  go_enter Tryz.func97, Tryz.ntmps97
  go_wp2_with fail
  with_reducible refine (deadD dp ib mb cap n D S wr _ D1.out).mono ?_
  rintro e w2 ⟨rfl, rfl⟩
  go_wp2_with fail
  go_region_held3 (fun w' => w'.cell? ⟨w.heap.size, 0, none⟩ = some (.int .i64 id) /\ w'.cell? ⟨w.heap.size, 1, none⟩ = some (.int .i64 ver) /\ w'.cell? ⟨w.heap.size, 2, none⟩ = some (.int .i64 rs) /\ w'.cell? ⟨w.heap.size, 3, none⟩ = some (.int .i64 rg)) (first | exact KB0.out | exact hS)
    (first
      | ((go_at_call 64); (with_reducible refine SC.out.mono ?_); (rintro e w2 ⟨rfl, rfl⟩))
      | ((go_at_call 63); (with_reducible refine (FI.out _).mono ?_); (rintro e w2 ⟨rfl, hb2⟩); (have hS := KB.out _ (bidd hb2))))
  have B2 := hid (bidd hb2)
  have D2 := hid (D1.out.below (bidd hb2))
  have L2 := hid hS
  clear hS hb2 k0 k1 k2 k3
  go_wp2_with fail
  with_reducible refine (sectorsD dp ib mb cap n D S wr _ D2.out).mono ?_
  rintro e w3 ⟨rfl, rfl⟩
  have hlen := D2.out.len
  go_wp2_with fail
  go_loopw [5, 6, 19] (fun _ _ j wx => ∃ k : Nat, k <= S.length /\ j = .int .i64 k /\ (∃ n' D', Dev wx dp ib mb cap n' D' (wipedS S k) (wr + k)) /\ Fr (devF dp ib mb) w2 wx) (fun _ _ j _ => S.length - (intOf j).toNat)
  case atStart => exact ⟨0, Nat.zero_le _, rfl, ⟨n, D, by simpa [wipedS] using D2.out⟩, Fr.refl _ _⟩
  case round =>
    obtain ⟨k, hk, rfl, ⟨n', D', hd⟩, hf⟩ := hrel
    have HDk := hid hd
    have HFk := hid hf
    have hlk := wiped_length S k hk
    clear hd hf
    by_cases hlt : k < S.length
    · go_wp2_with fail
      with_reducible refine (writeD dp ib mb cap n' D' _ _ k none 0 0 [] _ HDk.out (by omega) (.nilv _) (by omega) (by omega) (fun ad e => by cases e)).mono ?_
      rintro e w4 ⟨rfl, n4, D4, hd4, hf4⟩
      have HD4 := hid hd4
      have HF4 := hid hf4
      clear hd4 hf4
      go_wp2_with fail
      go_roundw
      case rel => exact ⟨k + 1, by omega, by go_num, ⟨n4, D4, by rw [<- wiped_step S k hlt]; exact HD4.out⟩, HFk.out.trans HF4.out (fun j hj => .inl hj)⟩
      case measure => simp [intOf]; omega
    · obtain rfl : k = S.length := by omega
      go_wp2_with fail
      with_reducible refine (barrierD dp ib mb cap n' D' _ _ _ HDk.out).mono ?_
      rintro e w4 ⟨rfl, hd4, hf4⟩
      rw [wiped_all] at hd4
      have F4 := hid (HFk.out.trans hf4 (fun j hj => .inl hj))
      have HD4 := hid hd4
      have hbox : ¬ devF dp ib mb w.heap.size := fun h => by have := HD.out.lt _ h; omega
      have hws2 : w.heap.size < w2.heap.size := by have := B2.out.size; omega
      have q0 := (F4.out.keep (j := 0) hws2 hbox).trans L2.out.1
      have q1 := (F4.out.keep (j := 1) hws2 hbox).trans L2.out.2.1
      have q2 := (F4.out.keep (j := 2) hws2 hbox).trans L2.out.2.2.1
      have q3 := (F4.out.keep (j := 3) hws2 hbox).trans L2.out.2.2.2
      have T4 := hid (show CrcT T w4 from ⟨fun i hi => by
        rw [F4.out.keep (b := 0) (Nat.lt_of_lt_of_le HT.out.lt (by omega)) (fun h => by have := h0 0 h; omega)]
        exact (HT.out.below (tB B1.out B2.out) HT.out.lt).cell i hi⟩)
      have PB := publish8 T dp ib mb cap n' (.map []) (List.replicate S.length (List.replicate 64 0)) _ (sup0 ⟨id, ver, rs, rg⟩) w4 HD4.out ⟨rfl, rfl, rfl⟩ (sup0_ok HL.out) T4.out (by simp; exact h2) (by omega) h0
      simp only [Sup.vals, sup0, lay0] at PB
      clear hd4 hf4
      go_wp2_with fail
      with_reducible refine PB.mono ?_
      rintro e w5 ⟨rfl, n5, hd5, hf5⟩
      go_wp2_with fail
      go_ret
      exact ⟨rfl, n5, hd5, (Fr.of_below (S := devF dp ib mb) (tB B1.out B2.out)).trans (F4.out.trans hf5 (fun j hj => .inl hj)) (fun j hj => .inl hj)⟩
end Go.Proofs.YtbikkioipamlmaaGreatDoor
namespace Go.Proofs.YtbikkioipamlmaaGreatDoor.T16
structure Ent where
  seq : Int
  off : Int
  len : Int
  exp : Int
  hit : Bool
structure Pl where
  st : Nat
  key : ByteArray
  en : Ent
def e0 : Ent := ⟨0, 0, 0, 0, false⟩
def pEmpty : Pl := ⟨0, ByteArray.empty, e0⟩
def pGone : Pl := ⟨2, ByteArray.empty, e0⟩
def dist (n h i : Nat) : Nat := if h <= i then i - h else i + n - h
def pos (n h t : Nat) : Nat := if h + t < n then h + t else h + t - n
def nxt (n i : Nat) : Nat := if i + 1 < n then i + 1 else 0
theorem dist_cases (n h i : Nat) : (h <= i /\ dist n h i = i - h) \/ (i < h /\ dist n h i = i + n - h) := by unfold dist; split <;> omega
theorem nxt_cases (n i : Nat) : (i + 1 < n /\ nxt n i = i + 1) \/ (n <= i + 1 /\ nxt n i = 0) := by unfold nxt; split <;> omega
theorem pos_lt {n h t : Nat} (hh : h < n) (ht : t <= n) : pos n h t < n := by unfold pos; split <;> omega
theorem dist_lt {n h i : Nat} (hh : h < n) (hi : i < n) : dist n h i < n := by unfold dist; split <;> omega
theorem pos_dist {n h i : Nat} (hh : h < n) (hi : i < n) : pos n h (dist n h i) = i := by unfold pos dist; split <;> split <;> omega
theorem dist_pos {n h t : Nat} (hh : h < n) (ht : t < n) : dist n h (pos n h t) = t := by unfold pos dist; split <;> split <;> omega
theorem pos_zero {n h : Nat} (hh : h < n) : pos n h 0 = h := by unfold pos; split <;> omega
theorem nxt_pos {n h t : Nat} (hh : h < n) (ht : t + 1 < n) : nxt n (pos n h t) = pos n h (t + 1) := by unfold nxt pos; split <;> split <;> split <;> omega
theorem nxt_lt {n i : Nat} (hi : i < n) : nxt n i < n := by unfold nxt; split <;> omega
def FindR (l : List Pl) (h : Nat) (k : ByteArray) (i : Nat) (b : Bool) : Prop :=
  ∃ t, t < l.length /\ i = pos l.length h t /\ (∀ t', t' < t -> ∃ p, l[pos l.length h t']? = some p /\ p.st ≠ 0 /\ ¬ (p.st = 1 /\ p.key = k)) /\
    ∃ p, l[i]? = some p /\ (b = true /\ p.st = 1 /\ p.key = k \/ b = false /\ p.st = 0)
structure Inv (home : ByteArray -> Nat) (l : List Pl) : Prop where
  hl : ∀ k, home k < l.length
  reach : ∀ (i : Nat) (p : Pl), l[i]? = some p -> p.st = 1 -> ∀ t, t < dist l.length (home p.key) i -> ∃ q, l[pos l.length (home p.key) t]? = some q /\ q.st ≠ 0
  uniq : ∀ (i j : Nat) (p q : Pl), l[i]? = some p -> l[j]? = some q -> p.st = 1 -> q.st = 1 -> p.key = q.key -> i = j
def HasK (l : List Pl) (k : ByteArray) (e : Ent) : Prop := ∃ (i : Nat) (p : Pl), l[i]? = some p /\ p.st = 1 /\ p.key = k /\ p.en = e
def usedN (l : List Pl) : Nat := l.countP (fun p => p.st == 1)
theorem find_true {l : List Pl} {h i : Nat} {k : ByteArray} (f : FindR l h k i true) : ∃ p, l[i]? = some p /\ p.st = 1 /\ p.key = k := by
  obtain ⟨_, _, _, _, p, h1, h2 | h2⟩ := f
  · exact ⟨p, h1, h2.2.1, h2.2.2⟩
  · cases h2.1
theorem find_false {l : List Pl} {h i : Nat} {k : ByteArray} (f : FindR l h k i false) : ∃ p, l[i]? = some p /\ p.st = 0 := by
  obtain ⟨_, _, _, _, p, h1, h2 | h2⟩ := f
  · cases h2.1
  · exact ⟨p, h1, h2.2⟩
theorem find_none {home : ByteArray -> Nat} {l : List Pl} {i : Nat} {k : ByteArray} (hI : Inv home l) (f : FindR l (home k) k i false) : ∀ e, ¬ HasK l k e := by
  rintro e ⟨j, p, hj, hp, rfl, _⟩
  obtain ⟨t, ht, hi, hb, q, hq, h2 | h2⟩ := f
  · cases h2.1
  have hjl := (List.getElem?_eq_some_iff.1 hj).1
  have hh := hI.hl p.key
  have hd := dist_lt hh hjl
  rcases Nat.lt_trichotomy t (dist l.length (home p.key) j) with hlt | heq | hgt
  · obtain ⟨r, hr, hr0⟩ := hI.reach j p hj hp t hlt
    rw [<- hi, hq] at hr
    cases hr
    exact hr0 h2.2
  · rw [hi, heq, pos_dist hh hjl, hj] at hq
    cases hq
    omega
  · obtain ⟨r, hr, hr0, hr1⟩ := hb _ hgt
    rw [pos_dist hh hjl, hj] at hr
    cases hr
    exact hr1 ⟨hp, rfl⟩
theorem Inv.put_new {home : ByteArray -> Nat} {l : List Pl} {i : Nat} {k : ByteArray} {e : Ent} (hI : Inv home l) (f : FindR l (home k) k i false) : Inv home (l.set i ⟨1, k, e⟩) := by
  have hnone := find_none hI f
  obtain ⟨t, ht, hi, hb, q, hq, h2 | h2⟩ := f
  · cases h2.1
  have hil := (List.getElem?_eq_some_iff.1 hq).1
  have hh := hI.hl k
  have g : ∀ j, (l.set i ⟨1, k, e⟩)[j]? = if i = j then some ⟨1, k, e⟩ else l[j]? := fun j => by
    rw [List.getElem?_set]; split
    · subst_vars; simp
    · rfl
  refine ⟨fun k' => by rw [List.length_set]; exact hI.hl k', fun j p hj hp t' ht' => ?_, fun j j' p p' hj hj' hp hp' hkk => ?_⟩
  · rw [List.length_set] at ht' ⊢
    rw [g] at hj ⊢
    by_cases hij : i = pos l.length (home p.key) t'
    · rw [if_pos hij]; exact ⟨_, rfl, by simp⟩
    · rw [if_neg hij]
      by_cases hji : i = j
      · rw [if_pos hji] at hj
        cases hj
        simp only at ht' hij ⊢
        subst hji
        rw [hi, dist_pos hh ht] at ht'
        obtain ⟨r, hr, hr0, _⟩ := hb t' ht'
        exact ⟨r, hr, hr0⟩
      · rw [if_neg hji] at hj
        exact hI.reach j p hj hp t' ht'
  · rw [g] at hj hj'
    by_cases h1 : i = j <;> by_cases h2 : i = j'
    · omega
    · rw [if_pos h1] at hj; rw [if_neg h2] at hj'
      cases hj
      exact absurd ⟨j', p', hj', hp', hkk.symm, rfl⟩ (hnone p'.en)
    · rw [if_neg h1] at hj; rw [if_pos h2] at hj'
      cases hj'
      exact absurd ⟨j, p, hj, hp, hkk, rfl⟩ (hnone p.en)
    · rw [if_neg h1] at hj; rw [if_neg h2] at hj'
      exact hI.uniq j j' p p' hj hj' hp hp' hkk
theorem Inv.put_old {home : ByteArray -> Nat} {l : List Pl} {i : Nat} {k : ByteArray} {e : Ent} (hI : Inv home l) (f : FindR l (home k) k i true) : Inv home (l.set i ⟨1, k, e⟩) := by
  obtain ⟨q, hq, hq1, hqk⟩ := find_true f
  have hil := (List.getElem?_eq_some_iff.1 hq).1
  have g : ∀ j, (l.set i ⟨1, k, e⟩)[j]? = if i = j then some ⟨1, k, e⟩ else l[j]? := fun j => by
    rw [List.getElem?_set]; split
    · subst_vars; simp
    · rfl
  refine ⟨fun k' => by rw [List.length_set]; exact hI.hl k', fun j p hj hp t' ht' => ?_, fun j j' p p' hj hj' hp hp' hkk => ?_⟩
  · rw [List.length_set] at ht' ⊢
    rw [g] at hj ⊢
    have hr : ∃ r, l[pos l.length (home p.key) t']? = some r /\ r.st ≠ 0 := by
      by_cases hji : i = j
      · rw [if_pos hji] at hj
        cases hj
        simp only at ht' ⊢
        subst hji
        rw [<- hqk] at ht' ⊢
        exact hI.reach i q hq hq1 t' ht'
      · rw [if_neg hji] at hj
        exact hI.reach j p hj hp t' ht'
    split
    · exact ⟨_, rfl, by simp⟩
    · exact hr
  · rw [g] at hj hj'
    by_cases h1 : i = j <;> by_cases h2 : i = j'
    · omega
    · rw [if_pos h1] at hj; rw [if_neg h2] at hj'
      cases hj
      exact absurd (hI.uniq i j' q p' hq hj' hq1 hp' (hqk.trans hkk)) h2
    · rw [if_neg h1] at hj; rw [if_pos h2] at hj'
      cases hj'
      exact absurd (hI.uniq i j q p hq hj hq1 hp (hqk.trans hkk.symm)) h1
    · rw [if_neg h1] at hj; rw [if_neg h2] at hj'
      exact hI.uniq j j' p p' hj hj' hp hp' hkk
theorem Inv.gone {home : ByteArray -> Nat} {l : List Pl} {i : Nat} (hI : Inv home l) (hi : i < l.length) : Inv home (l.set i pGone) := by
  have g : ∀ j, (l.set i pGone)[j]? = if i = j then some pGone else l[j]? := fun j => by
    rw [List.getElem?_set]; split
    · subst_vars; simp
    · rfl
  refine ⟨fun k' => by rw [List.length_set]; exact hI.hl k', fun j p hj hp t' ht' => ?_, fun j j' p p' hj hj' hp hp' hkk => ?_⟩
  · rw [List.length_set] at ht' ⊢
    rw [g] at hj ⊢
    by_cases hji : i = j
    · rw [if_pos hji] at hj
      cases hj
      simp [pGone] at hp
    · rw [if_neg hji] at hj
      split
      · exact ⟨_, rfl, by simp [pGone]⟩
      · exact hI.reach j p hj hp t' ht'
  · rw [g] at hj hj'
    by_cases h1 : i = j
    · rw [if_pos h1] at hj; cases hj; simp [pGone] at hp
    · by_cases h2 : i = j'
      · rw [if_pos h2] at hj'; cases hj'; simp [pGone] at hp'
      · rw [if_neg h1] at hj; rw [if_neg h2] at hj'
        exact hI.uniq j j' p p' hj hj' hp hp' hkk
theorem has_set {l : List Pl} {i : Nat} {q : Pl} {k' : ByteArray} {e' : Ent} (hi : i < l.length) : HasK (l.set i q) k' e' ↔ (q.st = 1 /\ q.key = k' /\ q.en = e') \/ ∃ (j : Nat) (p : Pl), j ≠ i /\ l[j]? = some p /\ p.st = 1 /\ p.key = k' /\ p.en = e' := by
  have g : ∀ j, (l.set i q)[j]? = if i = j then some q else l[j]? := fun j => by
    rw [List.getElem?_set]; split
    · subst_vars; simp
    · rfl
  constructor
  · rintro ⟨j, p, hj, h⟩
    rw [g] at hj
    by_cases hij : i = j
    · rw [if_pos hij] at hj; cases hj; exact .inl h
    · rw [if_neg hij] at hj; exact .inr ⟨j, p, Ne.symm hij, hj, h⟩
  · rintro (h | ⟨j, p, hne, hj, h⟩)
    · exact ⟨i, q, by rw [g, if_pos rfl], h⟩
    · exact ⟨j, p, by rw [g, if_neg (Ne.symm hne)]; exact hj, h⟩
theorem used_set {l : List Pl} {i : Nat} {p q : Pl} (hp : l[i]? = some p) : usedN (l.set i q) + (if p.st = 1 then 1 else 0) = usedN l + (if q.st = 1 then 1 else 0) := by
  unfold usedN
  induction l generalizing i with
  | nil => simp at hp
  | cons x l ih =>
    cases i with
    | zero =>
      simp at hp; subst hp
      rw [List.set_cons_zero, List.countP_cons, List.countP_cons]
      simp only [beq_iff_eq]
      omega
    | succ i =>
      have := ih (by simpa using hp)
      rw [List.set_cons_succ, List.countP_cons, List.countP_cons]
      omega
theorem used_zero {l : List Pl} (h : usedN l = 0) : ∀ k e, ¬ HasK l k e := by
  rintro k e ⟨i, p, hp, h1, _⟩
  unfold usedN at h
  rw [List.countP_eq_zero] at h
  exact h p (List.mem_of_getElem? hp) (by simp [h1])
theorem empty_of_used {l : List Pl} (hs : ∀ p ∈ l, p.st = 0 \/ p.st = 1) (hu : usedN l < l.length) : ∃ (i : Nat) (p : Pl), l[i]? = some p /\ p.st = 0 := by
  rcases Classical.em (∃ p ∈ l, p.st = 0) with ⟨p, hp, h0⟩ | hno
  · obtain ⟨i, hi, e⟩ := List.getElem_of_mem hp
    exact ⟨i, p, by rw [List.getElem?_eq_getElem hi, e], h0⟩
  · exfalso
    have : usedN l = l.length := by
      unfold usedN
      rw [List.countP_eq_length]
      intro p hp
      rcases hs p hp with h | h
      · exact absurd ⟨p, hp, h⟩ hno
      · simp [h]
    omega
structure RemI (home : ByteArray -> Nat) (l0 : List Pl) (i0 : Nat) (l : List Pl) (i k : Nat) : Prop where
  len : l.length = l0.length
  il : i < l.length
  kl : k < l.length
  ne : i ≠ k
  hole : ∃ p, l[i]? = some p /\ p.st = 1
  reach : ∀ (j : Nat) (p : Pl), j ≠ i -> l[j]? = some p -> p.st = 1 -> ∀ t, t < dist l.length (home p.key) j -> ∃ q, l[pos l.length (home p.key) t]? = some q /\ q.st ≠ 0
  uniq : ∀ (j j' : Nat) (p q : Pl), j ≠ i -> j' ≠ i -> l[j]? = some p -> l[j']? = some q -> p.st = 1 -> q.st = 1 -> p.key = q.key -> j = j'
  scan : ∀ (j : Nat) (p : Pl), l[j]? = some p -> p.st = 1 -> 0 < dist l.length i j -> dist l.length i j < dist l.length i k -> dist l.length (home p.key) j < dist l.length i j
  same : ∀ (ke : ByteArray) (e : Ent), (∃ (j : Nat) (p : Pl), j ≠ i /\ l[j]? = some p /\ p.st = 1 /\ p.key = ke /\ p.en = e) ↔ (∃ (j : Nat) (p : Pl), j ≠ i0 /\ l0[j]? = some p /\ p.st = 1 /\ p.key = ke /\ p.en = e)
  used : usedN l = usedN l0
  full : ∀ (j : Nat) (p : Pl), l[j]? = some p -> (p.st = 0 ↔ ∃ q, l0[j]? = some q /\ q.st = 0)
theorem used_swap {l : List Pl} {i k : Nat} {p q : Pl} (hp : l[i]? = some p) (hq : l[k]? = some q) (h1 : p.st = 1) (h2 : q.st = 1) : usedN (l.set i q) = usedN l := by
  have := used_set (q := q) hp
  rw [if_pos h1, if_pos h2] at this
  omega
theorem rem_start {home : ByteArray -> Nat} {l : List Pl} {i : Nat} {p : Pl} (hI : Inv home l) (hp : l[i]? = some p) (h1 : p.st = 1) (he : ∃ (j : Nat) (q : Pl), l[j]? = some q /\ q.st = 0) : RemI home l i l i (nxt l.length i) := by
  have hi := (List.getElem?_eq_some_iff.1 hp).1
  have hne : i ≠ nxt l.length i := by
    obtain ⟨j, q, hj, hq⟩ := he
    have hjl := (List.getElem?_eq_some_iff.1 hj).1
    have : j ≠ i := fun e => by subst e; rw [hp] at hj; cases hj; omega
    unfold nxt; split <;> omega
  refine ⟨rfl, hi, nxt_lt hi, hne, ⟨p, hp, h1⟩, fun j q _ => hI.reach j q, fun j j' q q' _ _ => hI.uniq j j' q q', fun j q hj hq h0 hlt => ?_, fun _ _ => Iff.rfl, rfl, fun j q hj => ?_⟩
  · exfalso
    have hjl := (List.getElem?_eq_some_iff.1 hj).1
    have d1 := dist_cases l.length i j
    have d2 := dist_cases l.length i (nxt l.length i)
    have d3 := nxt_cases l.length i
    omega
  · rw [hj]; simp
theorem rem_stay {home : ByteArray -> Nat} {l0 l : List Pl} {i0 i k : Nat} {p : Pl} (h : RemI home l0 i0 l i k) (hp : l[k]? = some p) (h1 : p.st = 1) (hd : dist l.length (home p.key) k < dist l.length i k) (he : nxt l.length k ≠ i) : RemI home l0 i0 l i (nxt l.length k) := by
  obtain ⟨a1, a2, a3, a4, a5, a6, a7, a8, a9, a10, a11⟩ := h
  refine ⟨a1, a2, nxt_lt a3, Ne.symm he, a5, a6, a7, fun j q hj hq h0 hlt => ?_, a9, a10, a11⟩
  have hjl := (List.getElem?_eq_some_iff.1 hj).1
  by_cases hjk : j = k
  · subst hjk; rw [hp] at hj; cases hj; exact hd
  · refine a8 j q hj hq h0 ?_
    have d1 := dist_cases l.length i j
    have d2 := dist_cases l.length i (nxt l.length k)
    have d3 := dist_cases l.length i k
    have d4 := nxt_cases l.length k
    omega
theorem rem_move {home : ByteArray -> Nat} {l0 l : List Pl} {i0 i k : Nat} {p : Pl} (h : RemI home l0 i0 l i k) (hp : l[k]? = some p) (h1 : p.st = 1) (hh : home p.key < l.length) (hd : dist l.length i k <= dist l.length (home p.key) k) (he : nxt l.length k ≠ k) : RemI home l0 i0 (l.set i p) k (nxt l.length k) := by
  obtain ⟨a1, a2, a3, a4, ⟨ph, hph, hph1⟩, a6, a7, a8, a9, a10, a11⟩ := h
  have g : ∀ j, (l.set i p)[j]? = if i = j then some p else l[j]? := fun j => by
    rw [List.getElem?_set]; split
    · subst_vars; simp
    · rfl
  refine ⟨by rw [List.length_set]; exact a1, by rw [List.length_set]; exact a3, by rw [List.length_set]; exact nxt_lt a3, Ne.symm he, ⟨p, by rw [g, if_neg a4]; exact hp, h1⟩, fun j q hjk hj hq t ht => ?_, fun j j' q q' hjk hjk' hj hj' hq hq' hkk => ?_, fun j q hj hq h0 hlt => ?_, fun ke e => ?_, ?_, fun j q hj => ?_⟩
  · rw [List.length_set] at ht ⊢
    rw [g] at hj ⊢
    have hr : ∃ r, l[pos l.length (home q.key) t]? = some r /\ r.st ≠ 0 := by
      by_cases hij : i = j
      · rw [if_pos hij] at hj
        cases hj
        subst hij
        refine a6 k p (Ne.symm a4) hp hq t ?_
        have d1 := dist_cases l.length i k
        have d2 := dist_cases l.length (home p.key) k
        have d3 := dist_cases l.length (home p.key) i
        omega
      · rw [if_neg hij] at hj
        exact a6 j q (Ne.symm hij) hj hq t ht
    split
    · exact ⟨_, rfl, by omega⟩
    · exact hr
  · rw [g] at hj hj'
    by_cases x1 : i = j <;> by_cases x2 : i = j'
    · omega
    · rw [if_pos x1] at hj; rw [if_neg x2] at hj'
      cases hj
      exact absurd (a7 k j' p q' (Ne.symm a4) (Ne.symm x2) hp hj' hq hq' hkk) (Ne.symm hjk')
    · rw [if_neg x1] at hj; rw [if_pos x2] at hj'
      cases hj'
      exact absurd (a7 j k q p (Ne.symm x1) (Ne.symm a4) hj hp hq hq' hkk) hjk
    · rw [if_neg x1] at hj; rw [if_neg x2] at hj'
      exact a7 j j' q q' (Ne.symm x1) (Ne.symm x2) hj hj' hq hq' hkk
  · exfalso
    rw [List.length_set] at h0 hlt
    have hjl := (List.getElem?_eq_some_iff.1 hj).1
    rw [List.length_set] at hjl
    have d1 := dist_cases l.length k j
    have d2 := dist_cases l.length k (nxt l.length k)
    have d3 := nxt_cases l.length k
    omega
  · rw [<- a9]
    constructor
    · rintro ⟨j, q, hjk, hj, hrest⟩
      rw [g] at hj
      by_cases hij : i = j
      · rw [if_pos hij] at hj; cases hj
        exact ⟨k, p, Ne.symm a4, hp, hrest⟩
      · rw [if_neg hij] at hj
        exact ⟨j, q, Ne.symm hij, hj, hrest⟩
    · rintro ⟨j, q, hji, hj, hrest⟩
      by_cases hjk : j = k
      · subst hjk
        rw [hp] at hj; cases hj
        exact ⟨i, p, a4, by rw [g, if_pos rfl], hrest⟩
      · exact ⟨j, q, hjk, by rw [g, if_neg (Ne.symm hji)]; exact hj, hrest⟩
  · rw [used_swap hph hp hph1 h1]; exact a10
  · rw [g] at hj
    by_cases hij : i = j
    · rw [if_pos hij] at hj; cases hj
      subst hij
      rw [<- a11 i ph hph]
      constructor <;> intro <;> omega
    · rw [if_neg hij] at hj
      exact a11 j q hj
theorem rem_end {home : ByteArray -> Nat} {l0 l : List Pl} {i0 i k : Nat} {p p0 : Pl} (h : RemI home l0 i0 l i k) (hI : Inv home l0) (hp : l[k]? = some p) (h0 : p.st = 0) (hp0 : l0[i0]? = some p0) (hp01 : p0.st = 1) :
    Inv home (l.set i pEmpty) /\ usedN (l.set i pEmpty) + 1 = usedN l0 /\ (l.set i pEmpty).length = l0.length /\ ∀ ke e, HasK (l.set i pEmpty) ke e ↔ HasK l0 ke e /\ ke ≠ p0.key := by
  obtain ⟨a1, a2, a3, a4, ⟨ph, hph, hph1⟩, a6, a7, a8, a9, a10, a11⟩ := h
  have hhl : ∀ k', home k' < l.length := fun k' => by rw [a1]; exact hI.hl k'
  have g : ∀ j, (l.set i pEmpty)[j]? = if i = j then some pEmpty else l[j]? := fun j => by
    rw [List.getElem?_set]; split
    · subst_vars; simp
    · rfl
  refine ⟨⟨fun k' => by rw [List.length_set]; exact hhl k', fun j q hj hq t ht => ?_, fun j j' q q' hj hj' hq hq' hkk => ?_⟩, ?_, by rw [List.length_set]; exact a1, fun ke e => ?_⟩
  · rw [List.length_set] at ht ⊢
    rw [g] at hj ⊢
    by_cases hij : i = j
    · rw [if_pos hij] at hj; cases hj; simp [pEmpty] at hq
    · rw [if_neg hij] at hj
      have hjl := (List.getElem?_eq_some_iff.1 hj).1
      have hhq := hhl q.key
      obtain ⟨r, hr, hr0⟩ := a6 j q (Ne.symm hij) hj hq t ht
      by_cases hit : i = pos l.length (home q.key) t
      · exfalso
        have hdk : ¬ dist l.length (home q.key) k < dist l.length (home q.key) j := fun hlt => by
          obtain ⟨r', hr', hr0'⟩ := a6 j q (Ne.symm hij) hj hq _ hlt
          rw [pos_dist hhq a3, hp] at hr'
          cases hr'
          exact hr0' h0
        have hjk : j ≠ k := fun e => by subst e; rw [hp] at hj; cases hj; omega
        have hti : t = dist l.length (home q.key) i := by rw [hit, dist_pos hhq (by have := dist_lt hhq hjl; omega)]
        have h3 : 0 < dist l.length i j /\ dist l.length i j < dist l.length i k /\ dist l.length i j <= dist l.length (home q.key) j := by
          have d1 := dist_cases l.length i j
          have d2 := dist_cases l.length i k
          have d3 := dist_cases l.length (home q.key) j
          have d4 := dist_cases l.length (home q.key) i
          have d5 := dist_cases l.length (home q.key) k
          omega
        have := a8 j q hj hq h3.1 h3.2.1
        omega
      · rw [if_neg hit]; exact ⟨r, hr, hr0⟩
  · rw [g] at hj hj'
    by_cases x1 : i = j
    · rw [if_pos x1] at hj; cases hj; simp [pEmpty] at hq
    · by_cases x2 : i = j'
      · rw [if_pos x2] at hj'; cases hj'; simp [pEmpty] at hq'
      · rw [if_neg x1] at hj; rw [if_neg x2] at hj'
        exact a7 j j' q q' (Ne.symm x1) (Ne.symm x2) hj hj' hq hq' hkk
  · have := used_set (q := pEmpty) hph
    rw [if_pos hph1, if_neg (by simp [pEmpty])] at this
    omega
  · rw [has_set a2]
    have hz : ¬ (pEmpty.st = 1 /\ pEmpty.key = ke /\ pEmpty.en = e) := by simp [pEmpty]
    rw [or_iff_right hz, a9]
    constructor
    · rintro ⟨j, q, hji, hj, hq, hk, he⟩
      refine ⟨⟨j, q, hj, hq, hk, he⟩, fun e' => hji ?_⟩
      exact hI.uniq j i0 q p0 hj hp0 hq hp01 (hk.trans e')
    · rintro ⟨⟨j, q, hj, hq, hk, he⟩, hne⟩
      refine ⟨j, q, fun e' => hne ?_, hj, hq, hk, he⟩
      subst e'
      rw [hp0] at hj; cases hj; exact hk.symm
end Go.Proofs.YtbikkioipamlmaaGreatDoor.T16
