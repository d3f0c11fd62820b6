/-
  The reference's Delete.
-/
import Derived.Test.YtkjhofmimggpnaaRefTLem
namespace Go.Proofs.Ytkjhofmimggpnaa
open Go.RowKit
set_option linter.unusedVariables false
theorem DelR.pre {w w2 w' : World} {bm : Nat} {L : List Pr} {R : Nat → Prop} {k : ByteArray} {b : Bool} (hb : Below w.heap.size w w2) (h : DelR w2 w' bm L R k b) : DelR w w' bm L R k b := by
  obtain ⟨L', R', h1, h2, h3, h4, h5, h6, h7⟩ := h
  exact ⟨L', R', h1, h2, h3, h4, h5, (Fr.of_below hb).trans h6 (fun j hj => .inl hj), fun j hj => (h7 j hj).imp id (fun h => by have := hb.size; omega)⟩
def DelQ (w : World) (bm : Nat) (L : List Pr) (R : Nat → Prop) (k : ByteArray) (e' : Ending) (w' : World) : Prop := ∃ b, e' = .returned (.bool b) ∧ DelR w w' bm L R k b
set_option maxRecDepth 100000 in
set_option maxHeartbeats 8000000 in
theorem rdel19 (bm : Nat) (R : Nat → Prop) (L : List Pr) (key : ByteArray) (w : World) (hL : L.length ≤ 1000) (hA : Asc L) (h : RT w bm L R) :
    Calls Try.prog 19 #[.pointer (some ⟨bm, 0, none⟩), .string key] w (DelQ w bm L R key) := by
  obtain ⟨i0, hi, hz0, hz1, hz2⟩ := info_parts prinfo
  have I1 := Lib.hid hi; have I2 := Lib.hid hz0; have I3 := Lib.hid hz1; have I4 := Lib.hid hz2
  clear hi hz0 hz1 hz2
  obtain ⟨v, p, hR⟩ := h
  have HR := Lib.hid hR
  have HA := Lib.hid hA
  have P := Lib.hid p
  have hbm := blk_lt p.blk
  have AT := Lib.hid (at29 bm v L key w (by omega) p)
  clear hA hR p
  go_enter Try.func19, Try.ntmps19
  go_wp2_with fail
  with_reducible refine AT.out.mono ?_
  rintro e1 w2 ⟨i, b, rfl, hat, hbi, m, hw2⟩
  have HAT := Lib.hid hat
  have HBI := Lib.hid hbi
  have hb2 : Below w.heap.size w w2 := by rw [hw2]; exact below_drewN (Below.refl _ _) m
  have hbm2 : bm < w2.heap.size := Nat.lt_of_lt_of_le hbm hb2.size
  have P2 := Lib.hid (P.out.below hb2)
  have HB2 := Lib.hid hb2
  clear hw2 hat hbi hb2 AT
  cases b with
  | false =>
    have NE := Lib.hid (show ∀ x, L[i]? = some x → x.key ≠ key from fun x hx e => by have := HBI.out.2 ⟨x, hx, e⟩; cases this)
    go_wp2_with fail
    go_ret
    exact ⟨false, rfl, del_miss' ⟨v, P.out, HR.out⟩ HB2.out HA.out HAT.out NE.out⟩
  | true =>
    have c0 := blk_cell (i := 0) P2.out.blk
    have f0 := blk_free (i := 0) P2.out.blk
    simp only [List.getElem?_toArray, List.getElem?_cons_zero] at c0
    obtain ⟨y, hy, hk⟩ := HBI.out.1 rfl
    have hil := (List.getElem?_eq_some_iff.1 hy).1
    rcases P2.out.form with ⟨rfl, hL0⟩ | ⟨g, off, cap, rfl, vals, hle, hmax, hgs⟩
    · rw [hL0] at hil; simp at hil
    have VA := Lib.hid vals
    have LEc := Lib.hid hle
    have HY := Lib.hid hy
    have HK := Lib.hid hk
    obtain ⟨n, hn⟩ : ∃ n, L.length = n := ⟨_, rfl⟩
    have HN := Lib.hid hn
    rw [hn] at c0 hle hil hL
    clear hn vals hy hk
    unfold maxLen at hmax
    have hkk : (i : Int) < n := by omega
    have hkn : ((i : Int) + 1) ≤ n := by omega
    have k0 : (0 : Int) ≤ (i : Int) := by omega
    have hkcap : (i : Int) ≤ cap := by omega
    have hkc : ((i : Int) + 1) ≤ cap := by omega
    have k1 : (0 : Int) ≤ (i : Int) + 1 := by omega
    have hw1 : IntKind.i64.wrap ((i : Int) + 1) = (i : Int) + 1 := IntWalk.i64_in _ (by omega)
    have HB0 := Lib.hid (show Below w2.heap.size w2 w2.drew from (Below.refl _ _).drew)
    have HS0 := Lib.hid (show w2.drew.cell? ⟨bm, 0, none⟩ = some (.slice (some ⟨g, off, none⟩) n cap) ∧ w2.drew.frozen? ⟨bm, 0, none⟩ = false ∧ Below w2.heap.size w2 w2.drew from ⟨c0, f0, (Below.refl _ _).drew⟩)
    go_wp2_with fail
    have ST1 := Lib.hid (fun (W : World) (hW : Below w2.heap.size w2 W) => (src_takeP VA.out hW i (by have := HN.out; omega) (fun e => by cases e) : Src W 6 (.slice (some ⟨g, off, none⟩) i cap) i (pairsC (L.take i))))
    have ST2 := Lib.hid (fun (W : World) (hW : Below w2.heap.size w2 W) => src_dropP VA.out LEc.out hW (i + 1) (by have := HN.out; omega) HN.out)
    have hm1 : 0 + i ≤ maxLen := by unfold maxLen; omega
    have hm2 : i + (n - (i + 1)) ≤ maxLen := by unfold maxLen; omega
    go_region_law
      (first
        | ((with_reducible apply step_app (hgd := rfl) (t := 40) (base := w2.heap.size) (e := 46) (i := i0) (z := .agg #[.string ByteArray.empty, .int .i64 0, .int .i64 0, .int .i64 0, .int .i64 0, .bool false]) (size := 6) (bytes := 56) (v := .slice none 0 0) (n := 0) (xs := []) (m := i) (news := pairsC (L.take i)) (ht := Try.underlying40) (hi := I1.out) (hz := I2.out) (hsize := I3.out) (hby := I4.out) (hzs := rfl)); (case ho => exact rfl); (case hs => exact rfl); (case hx => exact rfl); (case hsz => decide); (case hown => exact own_nil _ _ _ _); (case hsrc => exact ST1.out _ HB0.out); (case h1 => exact pairsC_cell _); (case h63 => exact hm1); (case hbytes => omega); (case hbase => exact HB0.out.size); (intro v3 w3 hown3 hgrow3); (simp only [Nat.zero_add, List.nil_append] at hown3); (have hs3 := keepG1 HS0.out hbm2 hgrow3); (obtain ⟨k3, kf3, kb3⟩ := id hs3))
        | ((with_reducible apply step_app (hgd := rfl) (t := 40) (base := w2.heap.size) (e := 46) (i := i0) (z := .agg #[.string ByteArray.empty, .int .i64 0, .int .i64 0, .int .i64 0, .int .i64 0, .bool false]) (size := 6) (bytes := 56) (v := v3) (n := i) (xs := pairsC (L.take i)) (m := n - (i + 1)) (news := pairsC (L.drop (i + 1))) (ht := Try.underlying40) (hi := I1.out) (hz := I2.out) (hsize := I3.out) (hby := I4.out) (hzs := rfl)); (case ho => exact rfl); (case hs => exact rfl); (case hx => exact rfl); (case hsz => decide); (case hown => exact hown3); (case hsrc => exact ST2.out _ hs3.2.2); (case h1 => exact pairsC_cell _); (case h63 => exact hm2); (case hbytes => omega); (case hbase => exact hs3.2.2.size); (intro v4 w4 hown4 hgrow4); (have hs4 := keepG2 hs3 hbm2 hown3 hgrow4); (obtain ⟨k4, kf4, kb4⟩ := id hs4); (obtain ⟨a4, cap4, rfl⟩ := ownsRow_slice hown4)))
    all_goals
      go_wp2_with fail
      all_goals go_ret
      all_goals exact ⟨true, rfl, by
        rw [← HK.out]
        exact DelR.pre HB2.out (del_hit' P2.out HR.out kb4 HA.out HY.out hown4 (by have := HN.out; omega))⟩
end Go.Proofs.Ytkjhofmimggpnaa
