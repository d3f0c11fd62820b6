/-
  The reference's chain: a list behind a pointer; Remove.
-/
import Derived.Test.YtdjjmglocdhnhaaChMem
import Derived.Test.YtdjjmglocdhnhaaFlat
import Derived.Test.YtdjjmglocdhnhaaRefList
import Derived.Deep.RegionLaw
namespace Go.Proofs.Ytdjjmglocdhnhaa
open Go.RowKit
set_option linter.unusedVariables false
theorem ret_bool {a b : Bool} (h : a = b) : Ending.returned (.bool a) = .returned (.bool b) := by rw [h]
def itC3 (x : It) : List Value := [.int .i64 x.seq, .int .i64 x.off, .string x.key]
theorem itC3_len (x : It) : (itC3 x).length = 3 := rfl
theorem itC3_one (l : List It) : ∀ u ∈ l.flatMap itC3, u.oneCell' = true := by
  intro u hu
  obtain ⟨x, _, hu⟩ := List.mem_flatMap.1 hu
  simp only [itC3, List.mem_cons, List.not_mem_nil, or_false] at hu
  rcases hu with rfl | rfl | rfl <;> rfl
theorem refinfo : (Try.prog.info? 43).map (fun i => (i.zero, i.size, i.bytes)) = some (some (.agg #[.int .i64 0, .int .i64 0, .string ByteArray.empty]), 3, 32) := by kernel_rfl
abbrev RC (w : World) (bm : Nat) (L : List It) (R : Nat → Prop) : Prop := RL w bm 38 3 L.length (L.flatMap itC3) R
theorem flat3_take (l : List It) (n : Nat) : (l.take n).flatMap itC3 = (l.flatMap itC3).take (n * 3) := by
  induction n generalizing l with
  | zero => simp
  | succ n ih =>
    cases l with
    | nil => simp
    | cons x l =>
      rw [List.take_succ_cons, List.flatMap_cons, List.flatMap_cons, ih, List.take_append, itC3_len, List.take_of_length_le (l := itC3 x) (by rw [itC3_len]; omega), show (n + 1) * 3 - 3 = n * 3 from by omega]
theorem flat3_drop (l : List It) (n : Nat) : (l.drop n).flatMap itC3 = (l.flatMap itC3).drop (n * 3) := by
  induction n generalizing l with
  | zero => simp
  | succ n ih =>
    cases l with
    | nil => simp
    | cons x l =>
      rw [List.drop_succ_cons, List.flatMap_cons, List.drop_append, itC3_len, List.drop_of_length_le (l := itC3 x) (by rw [itC3_len]; omega), show (n + 1) * 3 - 3 = n * 3 from by omega, ih]
      rfl
theorem src_take3 {w W : World} {bm : Nat} {t : TypeId} {L : List It} {a : Option Addr} {cap : Nat} (p : RLp w bm t 3 L.length (L.flatMap itC3) a cap) (hb : Below w.heap.size w W) (k : Nat) (hk : k ≤ L.length) : Src W 3 (.slice a k cap) k ((L.take k).flatMap itC3) := by
  rw [flat3_take]
  refine ((p.vals.below hb (Nat.le_refl _)).take (k * 3)).src ?_ (fun e => ?_)
  · rw [List.length_take, p.len]; omega
  · obtain ⟨h1, h2⟩ := p.nil e
    exact ⟨by omega, h2⟩
theorem src_drop3 {w W : World} {bm : Nat} {t : TypeId} {L : List It} {g off n : Nat} {cap : Nat} (p : RLp w bm t 3 L.length (L.flatMap itC3) (some ⟨g, off, none⟩) cap) (hb : Below w.heap.size w W) (k : Nat) (hk : k ≤ L.length) (hn : L.length = n) :
    Src W 3 (.slice (if cap = k then some ⟨g, off, none⟩ else some ⟨g, off + k * 3, none⟩) (n - k) (cap - k)) (n - k) ((L.drop k).flatMap itC3) := by
  subst hn
  have hv := p.vals.below hb (Nat.le_refl _)
  have hl : ((L.drop k).flatMap itC3).length = (L.length - k) * 3 := by rw [flat_len itC3 3 itC3_len, List.length_drop]
  split
  · rename_i h
    have := p.le
    have e : L.drop k = [] := List.drop_eq_nil_of_le (by omega)
    rw [e]
    exact Vals.src Vals.nil (by rw [e] at hl; exact hl) (fun e => by cases e)
  · rw [flat3_drop] at hl ⊢
    exact (hv.drop (k * 3)).src hl (fun e => by cases e)
/-- the cells of item k -/
theorem RLp.item {w : World} {bm : Nat} {t : TypeId} {L : List It} {a : Option Addr} {cap : Nat} (p : RLp w bm t 3 L.length (L.flatMap itC3) a cap) (k : Nat) (y : It) (hy : L[k]? = some y) :
    ∃ g off, a = some ⟨g, off, none⟩ ∧ g < w.heap.size ∧ w.cell? ⟨g, off + k * 3, none⟩ = some (.int .i64 y.seq) ∧ w.cell? ⟨g, off + k * 3 + 1, none⟩ = some (.int .i64 y.off) ∧ w.cell? ⟨g, off + k * 3 + 2, none⟩ = some (.string y.key) := by
  obtain ⟨b, off, ha, hb, hc⟩ := p.vals.row itC3_len (by omega) k y hy
  exact ⟨b, off, ha, hb, hc 0 (by omega), hc 1 (by omega), hc 2 (by omega)⟩
/-- what a call that writes gives -/
def RStep (w w' : World) (bm : Nat) (L' : List It) (R : Nat → Prop) : Prop := ∃ R', RC w' bm L' R' ∧ Fr R w w' ∧ ∀ j, R' j → R j ∨ w.heap.size ≤ j
theorem rc_bm {w : World} {bm : Nat} {L : List It} {R : Nat → Prop} (h : RC w bm L R) : R bm := by
  obtain ⟨_, _, _, rfl⟩ := h
  exact .inl rfl
theorem rc_fin {w w2 : World} {bm e m : Nat} {R : Nat → Prop} {L L' : List It} {a : Option Addr} {cap : Nat} (h : RC w bm L R) (hm : L'.length = m) (hb : Below w.heap.size w w2) (ho : w2.ownsRow w.heap.size e 3 (.slice a m cap) m (L'.flatMap itC3)) : RStep w (w2.setCell ⟨bm, 0, none⟩ (.slice a m cap)) bm L' R := by
  subst hm
  obtain ⟨R', h1, h2, h3⟩ := RL.store h hb ho (Nat.le_refl _)
  exact ⟨R', h1, h2.mono (fun j _ e => by rw [e]; exact rc_bm h), h3⟩
theorem RStep.drew {w w' : World} {bm : Nat} {L' : List It} {R : Nat → Prop} (h : RStep w w' bm L' R) : RStep w w'.drew bm L' R := by
  obtain ⟨R', h1, h2, h3⟩ := h
  exact ⟨R', h1.frame (T := fun _ => False) (.of_below (Below.refl _ _).drew) (fun _ _ f => f), h2.drew, h3⟩
set_option maxRecDepth 100000 in
set_option maxHeartbeats 8000000 in
theorem rremove13 (bm : Nat) (R : Nat → Prop) (L : List It) (s o : Int) (w : World) (hL : L.length ≤ 1000) (hA : AscI L) (h : RC w bm L R) :
    Calls Try.prog 13 #[.pointer (some ⟨bm, 0, none⟩), .int .i64 s, .int .i64 o] w fun e w' => e = .returned (.bool (decide (HasO L s o))) ∧ RStep w w' bm (rmI L s o) R := by
  have HH := Lib.hid h
  obtain ⟨i0, hi, hz0, hz1, hz2⟩ := info_parts refinfo
  have I1 := Lib.hid hi; have I2 := Lib.hid hz0; have I3 := Lib.hid hz1; have I4 := Lib.hid hz2
  obtain ⟨a, cap, p, hR⟩ := h
  clear hR
  have c0 := blk_cell (i := 0) p.blk
  have f0 := blk_free (i := 0) p.blk
  simp only [List.getElem?_toArray, List.getElem?_cons_zero] at c0
  have P := Lib.hid p
  have hbm := blk_lt p.blk
  have HA := Lib.hid hA
  have hle := p.le
  have hmax := p.max
  unfold maxLen at hmax
  clear p hA hi hz0 hz1 hz2
  obtain ⟨n, hn⟩ : ∃ n, L.length = n := ⟨_, rfl⟩
  have HN := Lib.hid hn
  rw [hn] at c0 hle hL
  clear hn
  go_enter Try.func13, Try.ntmps13
  go_wp2_with fail
  go_loop [7, 13] (fun _ i => ∃ k : Nat, k ≤ n ∧ i = .int .i64 k ∧ Hid (∀ (j : Nat) (x : It), j < k → L[j]? = some x → ¬ (x.seq = s ∧ x.off = o))) (fun _ i => n - (intOf i).toNat)
  case atStart => exact ⟨0, Nat.zero_le _, rfl, Lib.hid (fun j x h => by omega)⟩
  case round =>
    obtain ⟨k, hk, rfl, hno⟩ := hrel
    by_cases hlt : k < n
    · obtain ⟨y, hy⟩ : ∃ y, L[k]? = some y := ⟨_, List.getElem?_eq_getElem (by have := HN.out; omega)⟩
      obtain ⟨g, off, rfl, hg, e0, e1, -⟩ := P.out.item k y hy
      have HY := Lib.hid hy
      clear hy
      have hkk : (k : Int) < n := by omega
      by_cases heq : y.seq = s ∧ y.off = o
      · obtain ⟨hs1, ho1⟩ := heq
        subst hs1 ho1
        have hHO : HasO L y.seq y.off := ⟨y, mem_itsI.2 ⟨List.mem_of_getElem? HY.out, rfl⟩, rfl⟩
        have HHO := Lib.hid hHO
        have hb1 : (y.seq == y.seq) = true := by simp
        have hb2 : (y.off == y.off) = true := by simp
        have hkn : ((k : Int) + 1) ≤ n := by omega
        have k0 : (0 : Int) ≤ (k : Int) := by omega
        have hkcap : (k : Int) ≤ cap := by omega
        have hkc : ((k : Int) + 1) ≤ cap := by omega
        have HB0 := Lib.hid (show Below w.heap.size w w.drew from (Below.refl _ _).drew)
        have HS0 := Lib.hid (show w.drew.cell? ⟨bm, 0, none⟩ = some (.slice (some ⟨g, off, none⟩) n cap) ∧ w.drew.frozen? ⟨bm, 0, none⟩ = false ∧ Below w.heap.size w w.drew from ⟨c0, f0, (Below.refl _ _).drew⟩)
        have k1 : (0 : Int) ≤ (k : Int) + 1 := by omega
        have hw1 : IntKind.i64.wrap ((k : Int) + 1) = (k : Int) + 1 := IntWalk.i64_in _ (by omega)
        clear hHO
        go_wp2_with fail
        have ST1 := Lib.hid (fun (W : World) (hW : Below w.heap.size w W) => (src_take3 P.out hW k (by have := HN.out; omega) : Src W 3 (.slice (some ⟨g, off, none⟩) k cap) k ((L.take k).flatMap itC3)))
        have ST2 := Lib.hid (fun (W : World) (hW : Below w.heap.size w W) => src_drop3 P.out hW (k + 1) (by have := HN.out; omega) HN.out)
        have hm1 : 0 + k ≤ maxLen := by unfold maxLen; omega
        have hm2 : k + (n - (k + 1)) ≤ maxLen := by unfold maxLen; omega
        go_region_law
          (first
            | ((with_reducible apply step_app (hgd := rfl) (t := 36) (base := w.heap.size) (e := 43) (i := i0) (z := .agg #[.int .i64 0, .int .i64 0, .string ByteArray.empty]) (size := 3) (bytes := 32) (v := .slice none 0 0) (n := 0) (xs := []) (m := k) (news := (L.take k).flatMap itC3) (ht := Try.underlying36) (hi := I1.out) (hz := I2.out) (hsize := I3.out) (hby := I4.out) (hzs := rfl)); (case ho => exact rfl); (case hs => exact rfl); (case hx => exact rfl); (case hsz => decide); (case hown => exact own_nil _ _ _ _); (case hsrc => exact ST1.out _ HB0.out); (case h1 => exact itC3_one _); (case h63 => exact hm1); (case hbytes => omega); (case hbase => exact HB0.out.size); (intro v1 w1 hown1 hgrow1); (simp only [Nat.zero_add, List.nil_append] at hown1); (have hs1 := keepG1 HS0.out hbm hgrow1); (obtain ⟨k1, kf1, kb1⟩ := id hs1))
            | ((with_reducible apply step_app (hgd := rfl) (t := 36) (base := w.heap.size) (e := 43) (i := i0) (z := .agg #[.int .i64 0, .int .i64 0, .string ByteArray.empty]) (size := 3) (bytes := 32) (v := v1) (n := k) (xs := (L.take k).flatMap itC3) (m := n - (k + 1)) (news := (L.drop (k + 1)).flatMap itC3) (ht := Try.underlying36) (hi := I1.out) (hz := I2.out) (hsize := I3.out) (hby := I4.out) (hzs := rfl)); (case ho => exact rfl); (case hs => exact rfl); (case hx => exact rfl); (case hsz => decide); (case hown => exact hown1); (case hsrc => exact ST2.out _ hs1.2.2); (case h1 => exact itC3_one _); (case h63 => exact hm2); (case hbytes => omega); (case hbase => exact hs1.2.2.size); (intro v2 w2 hown2 hgrow2); (have hs2 := keepG2 hs1 hbm hown1 hgrow2); (obtain ⟨k2, kf2, kb2⟩ := id hs2); (obtain ⟨a2, cap2, rfl⟩ := ownsRow_slice hown2)))
        all_goals
          have FIN := Lib.hid (show RStep w (w2.setCell ⟨bm, 0, none⟩ (.slice a2 (k + (n - (k + 1))) cap2)) bm (rmI L y.seq y.off) R from rc_fin HH.out (by rw [rmI_at HA.out HY.out, List.length_append, List.length_take, List.length_drop]; have := HN.out; omega) kb2 (by rw [rmI_at HA.out HY.out, List.flatMap_append]; exact hown2))
          clear kb2 hown2
          go_wp2_with fail
          all_goals go_ret
          all_goals exact ⟨ret_bool (decide_eq_true HHO.out).symm, FIN.out⟩
      · have NO := Lib.hid (show ∀ (j : Nat) (x : It), j < k + 1 → L[j]? = some x → ¬ (x.seq = s ∧ x.off = o) from fun j x hj hx => by
          by_cases e : j = k
          · subst e; rw [HY.out] at hx; cases hx; exact heq
          · exact hno.out j x (by omega) hx)
        by_cases hs1 : y.seq = s
        · have hb1 : (y.seq == s) = true := by simp [hs1]
          have hb2 : (y.off == o) = false := by simp; exact fun e => heq ⟨hs1, e⟩
          clear heq hs1
          go_wp2_with fail
          go_round
          case rel => exact ⟨k + 1, by omega, by go_num, NO⟩
          case measure => simp [intOf]; omega
        · have hb1 : (y.seq == s) = false := by simp [hs1]
          clear heq hs1
          go_wp2_with fail
          go_round
          case rel => exact ⟨k + 1, by omega, by go_num, NO⟩
          case measure => simp [intOf]; omega
    · obtain rfl : k = n := by omega
      have NOT := Lib.hid (show ∀ x ∈ L, ¬ (x.seq = s ∧ x.off = o) from fun x hx => by
        obtain ⟨j, hj⟩ := List.getElem?_of_mem hx
        exact hno.out j x (by have := (List.getElem?_eq_some_iff.1 hj).1; have := HN.out; omega) hj)
      have hHO : ¬ HasO L s o := fun ⟨x, hx, ho⟩ => NOT.out x (mem_itsI.1 hx).1 ⟨(mem_itsI.1 hx).2, ho⟩
      have HHO := Lib.hid hHO
      clear hHO
      go_wp2_with fail
      go_ret
      refine ⟨ret_bool (decide_eq_false HHO.out).symm, R, ?_, Fr.refl _ _, fun j hj => .inl hj⟩
      rw [rmI_none NOT.out]
      exact HH.out
end Go.Proofs.Ytdjjmglocdhnhaa
