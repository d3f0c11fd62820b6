/-
  The contracts of the reference's Cut.
-/
import Derived.Test.YtkafffoaaklhiaaRefChoose
import Derived.Test.YtkafffoaaklhiaaRefSel
namespace Go.Proofs.Ytkafffoaaklhiaa
open Go.RowKit
set_option linter.unusedVariables false
def rcap (rs : Int) : Int := wrap64 (wrap64 (rs - 1) * 59)
theorem rcap_form {t : Lay} (h : formB t = true) : rcap t.rs = capD t := by
  obtain ⟨_, _, r1, r2, _⟩ := formB_rng h
  unfold rcap capD
  rw [if_pos h, IntWalk.wrap64_in (t.rs - 1) ⟨by omega, by omega⟩, IntWalk.wrap64_in _ ⟨by omega, by omega⟩]
set_option maxHeartbeats 1000000 in
theorem refcap31 (t : Lay) (w : World) (h : formB t = true) : Calls Try.prog 31 #[.agg #[.int .i64 t.id, .int .i64 t.ver, .int .i64 t.rs, .int .i64 t.rg]] w fun e w' => e = .returned (.int .i64 (capD t)) ∧ Below w.heap.size w w' := by
  obtain ⟨_, _, r1, r2, _⟩ := formB_rng h
  have E := Lib.hid (show (t.rs - 1) * 59 = capD t from by unfold capD; rw [if_pos h])
  clear h
  go_enter Try.func31, Try.ntmps31
  go_wp2_with fail
  go_ret
  exact ⟨ret_int (by first | exact E.out | rw [← E.out]), (Below.refl _ _).alloc (Nat.le_refl _) _⟩
theorem cutF_noform {t : Lay} (h : formB t = false) : ∀ S, cutF t S = S.length
  | [] => rfl
  | r :: S => by
    unfold cutF
    have hb : chB t (r :: S) = false := by unfold chB freeQ freeD; rw [if_neg (by rw [h]; simp)]
    rw [if_neg (by rw [hb]; simp), cutF_noform h S]
    rfl
theorem cutD_all (t : Lay) (l : List Reg) : cutD t l = cutF t (sortR l) := by
  unfold cutD
  split
  · rfl
  · rename_i h
    rw [cutF_noform (by simpa using h), (sort_all l).2.2]
set_option maxRecDepth 100000 in
set_option maxHeartbeats 4000000 in
theorem refbytes30 (a : Option Addr) (n cap : Nat) (l : List Reg) (w : World) (hl : l.length = n) (hn : n < 20) (hv : Vals w a (regC l)) :
    Calls Try.prog 30 #[.slice a n cap] w fun e w' => e = .returned (.int .i64 (sumC l)) ∧ Below w.heap.size w w' := by
  have HL := Lib.hid hl
  have HV := Lib.hid hv
  have RF := Lib.hid (fun (L : Lay) W => refform12 L.id L.ver L.rs L.rg W)
  have RC := Lib.hid (fun (L : Lay) W (h : formB L = true) => refcap31 L W h)
  clear hv hl
  go_enter Try.func30, Try.ntmps30
  go_wp2_with fail
  go_loopg [3, 5, 8] n (fun gk sv _ iv wr => ∃ i : Nat, iv = .int .i64 i ∧ i ≤ n ∧ gk = n - i ∧ sv = .int .i64 (sumC (l.take i)) ∧ Below w.heap.size w wr)
  case atStart => exact ⟨0, rfl, Nat.zero_le _, rfl, rfl, Below.refl _ _⟩
  case round =>
    obtain ⟨i, rfl, hi, hgk, rfl, hb⟩ := hrel
    have GK := Lib.hid hgk
    have B := Lib.hid hb
    clear hgk hb
    by_cases hlt : i < n
    · obtain ⟨r, hr⟩ : ∃ r, l[i]? = some r := ⟨_, List.getElem?_eq_getElem (by rw [HL.out]; exact hlt)⟩
      obtain ⟨b, off, rfl, hb, hcells⟩ := (HV.out.below B.out (Nat.le_refl _)).regs.at i (by rw [HL.out]; exact hlt)
      simp only [hr, Option.getD_some] at hcells
      obtain ⟨g0, g1, g2, g3, g4, g5, g6, g7, g8, g9⟩ := hcells
      have hiI : (i : Int) < n := by omega
      have hs1 := sumC_rng (l.take i)
      have hs2 : (l.take i).length ≤ 20 := by rw [List.length_take]; omega
      have hs3 : sumC (l.take (i + 1)) = sumC (l.take i) + capD r.l := by rw [List.take_add_one, hr]; exact sumC_app _ _
      have hcr := capD_rng r.l
      obtain ⟨s0, hs0⟩ : ∃ s0, sumC (l.take i) = s0 := ⟨_, rfl⟩
      rw [hs0] at hs1 hs3 ⊢
      have S3 := Lib.hid hs3
      have RFR := Lib.hid (fun W => RF.out r.l W)
      rw [show (⟨r.l.id, r.l.ver, r.l.rs, r.l.rg⟩ : Lay) = r.l from rfl] at RFR
      have hsb : 0 ≤ s0 ∧ s0 ≤ 2415460 := by omega
      clear hr hs0 hs3 hs1 hs2
      go_wp2_with fail
      with_reducible refine (RFR.out _).mono ?_
      rintro e w3 ⟨rfl, hb3⟩
      have BX := Lib.hid (B.out.trans (((Below.refl wr.heap.size wr).alloc (Nat.le_refl _) (.cells #[.int .i64 r.ver, .int .i64 r.slot, .int .i64 r.lay, .int .i64 r.seq, .int .i64 r.tail, .int .i64 r.now, .int .i64 r.l.id, .int .i64 r.l.ver, .int .i64 r.l.rs, .int .i64 r.l.rg] 36)).mono B.out.size))
      have hr3 : w3.heap[wr.heap.size]? = some (.cells #[.int .i64 r.ver, .int .i64 r.slot, .int .i64 r.lay, .int .i64 r.seq, .int .i64 r.tail, .int .i64 r.now, .int .i64 r.l.id, .int .i64 r.l.ver, .int .i64 r.l.rs, .int .i64 r.l.rg] 36 (0, 0)) := by
        rw [hb3.block wr.heap.size (by simp)]
        show (wr.heap.push _)[wr.heap.size]? = _
        simp
      have B3 := Lib.hid (bel_trans BX.out hb3)
      have y6 := blk_cell (i := 6) hr3; have y7 := blk_cell (i := 7) hr3; have y8 := blk_cell (i := 8) hr3; have y9 := blk_cell (i := 9) hr3
      simp only [List.getElem?_toArray, List.getElem?_cons_zero, List.getElem?_cons_succ] at y6 y7 y8 y9
      clear hb3 g0 g1 g2 g3 g4 g5 g6 g7 g8 g9 hb hr3
      cases hfr : formB r.l with
      | false =>
        have E := Lib.hid (show sumC (l.take (i + 1)) = s0 from by
          rw [S3.out]; unfold capD; rw [if_neg (by rw [hfr]; simp)]; omega)
        go_wp2_with fail
        go_roundg (n - (i + 1))
        case measure => have := GK.out; omega
        case rel => exact ⟨i + 1, by go_num, by omega, rfl, by rw [E.out], B3.out⟩
      | true =>
        have RCR := Lib.hid (fun W => RC.out r.l W hfr)
        obtain ⟨cr, hcre⟩ : ∃ cr, capD r.l = cr := ⟨_, rfl⟩
        rw [hcre] at hcr S3 RCR
        clear hcre hfr
        go_wp2_with fail
        with_reducible refine (RCR.out _).mono ?_
        rintro e w5 ⟨rfl, hb5⟩
        have B5 := Lib.hid (bel_trans B3.out hb5)
        clear hb5 y6 y7 y8 y9
        go_wp2_with fail
        go_roundg (n - (i + 1))
        case measure => have := GK.out; omega
        case rel => exact ⟨i + 1, by go_num, by omega, rfl, by rw [S3.out], B5.out⟩
    · have hin : i = n := by omega
      subst hin
      rw [List.take_of_length_le (by rw [HL.out]; exact Nat.le_refl _)]
      clear GK hlt
      go_wp2_with fail
      go_ret
      exact ⟨rfl, B.out⟩
end Go.Proofs.Ytkafffoaaklhiaa
