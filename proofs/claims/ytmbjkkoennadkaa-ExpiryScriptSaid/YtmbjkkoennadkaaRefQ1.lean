/-
  The reference's Remove.
-/
import Derived.Test.YtmbjkkoennadkaaMap18
import Derived.Test.YtmbjkkoennadkaaRefList
import Derived.Deep.RegionLaw
namespace Go.Proofs.Ytmbjkkoennadkaa
open Go.RowKit Go.Maps
set_option linter.unusedVariables false
theorem oneinfo : (Try.prog.info? 46).map (fun i => (i.zero, i.size, i.bytes)) = some (some (.agg #[.string ByteArray.empty, .int .i64 0]), 2, 24) := by kernel_rfl
theorem itemCells_drop (l : List Item) (n : Nat) : itemCells (l.drop n) = (itemCells l).drop (n * 2) := by
  induction n generalizing l with
  | zero => simp
  | succ n ih =>
    cases l with
    | nil => simp [itemCells]
    | cons x l => simp only [List.drop_succ_cons, ih, itemCells]; rw [show (n + 1) * 2 = n * 2 + 1 + 1 from by omega, List.drop_succ_cons, List.drop_succ_cons]
theorem itemCells_one (l : List Item) : ∀ u ∈ itemCells l, u.oneCell' = true := by
  induction l with
  | nil => simp [itemCells]
  | cons x l ih =>
    intro u hu
    simp only [itemCells, List.mem_cons] at hu
    rcases hu with rfl | rfl | hu
    · rfl
    · rfl
    · exact ih u hu
theorem rem_at (L : List Item) (k : Nat) (x : Item) (hx : L[k]? = some x) (hd : L.Pairwise (fun a b => a.key ≠ b.key)) : remL L x.key = L.take k ++ L.drop (k + 1) := by
  induction L generalizing k with
  | nil => simp at hx
  | cons y L ih =>
    obtain ⟨h1, h2⟩ := List.pairwise_cons.1 hd
    cases k with
    | zero =>
      simp at hx; subst hx
      unfold remL
      rw [List.filter_cons, if_neg (by simp)]
      simp
      exact fun z hz => Ne.symm (h1 z hz)
    | succ k =>
      have hx' : L[k]? = some x := by simpa using hx
      have hm : x ∈ L := List.mem_of_getElem? hx'
      have := ih k hx' h2
      unfold remL at this ⊢
      rw [List.filter_cons, if_pos (by simp [h1 x hm]), this]
      simp
theorem rem_none (L : List Item) (k : ByteArray) (h : ∀ (j : Nat) (x : Item), L[j]? = some x → x.key ≠ k) : remL L k = L := by
  unfold remL
  refine List.filter_eq_self.2 (fun x hx => ?_)
  obtain ⟨j, hj, e⟩ := List.getElem_of_mem hx
  simpa using h j x (by rw [List.getElem?_eq_getElem hj, e])
theorem src_take {w W : World} {bm : Nat} {t : TypeId} {L : List Item} {a : Option Addr} {cap : Nat} (p : RLp w bm t 2 L.length (itemCells L) a cap) (hb : Below w.heap.size w W) (k : Nat) (hk : k ≤ L.length) : Src W 2 (.slice a k cap) k (itemCells (L.take k)) := by
  rw [← itemCells_take]
  refine ((p.vals.below hb (Nat.le_refl _)).take (k * 2)).src ?_ (fun e => ?_)
  · rw [List.length_take, p.len]; omega
  · obtain ⟨h1, h2⟩ := p.nil e
    exact ⟨by omega, h2⟩
theorem src_drop {w W : World} {bm : Nat} {t : TypeId} {L : List Item} {g off n : Nat} {cap : Nat} (p : RLp w bm t 2 L.length (itemCells L) (some ⟨g, off, none⟩) cap) (hb : Below w.heap.size w W) (k : Nat) (hk : k ≤ L.length) (hn : L.length = n) :
    Src W 2 (.slice (if cap = k then some ⟨g, off, none⟩ else some ⟨g, off + k * 2, none⟩) (n - k) (cap - k)) (n - k) (itemCells (L.drop k)) := by
  subst hn
  have hv := p.vals.below hb (Nat.le_refl _)
  have hl : (itemCells (L.drop k)).length = (L.length - k) * 2 := by rw [itemCells_length, List.length_drop]
  split
  · rename_i h
    have := p.le
    have e : L.drop k = [] := List.drop_eq_nil_of_le (by omega)
    rw [e]
    exact Vals.src Vals.nil (by rw [e] at hl; exact hl) (fun e => by cases e)
  · rw [itemCells_drop] at hl ⊢
    exact (hv.drop (k * 2)).src hl (fun e => by cases e)
theorem rem_fin {w w2 : World} {bm e n k : Nat} {R : Nat → Prop} {L : List Item} {key : ByteArray} {y : Item} {a : Option Addr} {cap : Nat} {t : TypeId} (h : RL w bm t 2 L.length (itemCells L) R) (hd : L.Pairwise (fun a b => a.key ≠ b.key)) (hy : L[k]? = some y) (hk : y.key = key) (hn : L.length = n)
    (hb : Below w.heap.size w w2) (ho : w2.ownsRow w.heap.size e 2 (.slice a (k + (n - (k + 1))) cap) (k + (n - (k + 1))) (itemCells (L.take k) ++ itemCells (L.drop (k + 1)))) :
    ∃ R', RL (w2.setCell ⟨bm, 0, none⟩ (.slice a (k + (n - (k + 1))) cap)) bm t 2 (remL L key).length (itemCells (remL L key)) R' ∧ Fr (fun k => k = bm) w (w2.setCell ⟨bm, 0, none⟩ (.slice a (k + (n - (k + 1))) cap)) ∧ ∀ j, R' j → R j ∨ w.heap.size ≤ j := by
  subst hk hn
  have hlt := (List.getElem?_eq_some_iff.1 hy).1
  have e1 := rem_at L k y hy hd
  have e2 : (remL L y.key).length = k + (L.length - (k + 1)) := by rw [e1, List.length_append, List.length_take, List.length_drop]; omega
  rw [e2, e1, itemCells_append]
  exact h.store hb ho (Nat.le_refl _)
set_option maxRecDepth 100000 in
set_option maxHeartbeats 4000000 in
theorem rremove15 (bm : Nat) (R : Nat → Prop) (L : List Item) (key : ByteArray) (w : World) (hL : L.length ≤ 1000) (hd : L.Pairwise (fun a b => a.key ≠ b.key)) (h : RL w bm 39 2 L.length (itemCells L) R) :
    Calls Try.prog 15 #[.pointer (some ⟨bm, 0, none⟩), .string key] w fun e w' => e = .returned (.tuple #[]) ∧
      ∃ R', RL w' bm 39 2 (remL L key).length (itemCells (remL L key)) R' ∧ Fr (fun k => k = bm) w w' ∧ ∀ j, R' j → R j ∨ w.heap.size ≤ j := by
  have HH := Lib.hid h
  obtain ⟨i0, hi, hz0, hz1, hz2⟩ := info_parts oneinfo
  have I1 := Lib.hid hi; have I2 := Lib.hid hz0; have I3 := Lib.hid hz1; have I4 := Lib.hid hz2
  obtain ⟨a, cap, p, hR⟩ := h
  clear hR
  have c0 := blk_cell (i := 0) p.blk
  have f0 := blk_free (i := 0) p.blk
  simp only [List.getElem?_toArray, List.getElem?_cons_zero] at c0
  have P := Lib.hid p
  have hbm := blk_lt p.blk
  have HD := Lib.hid hd
  have hle := p.le
  have hmax := p.max
  unfold maxLen at hmax
  clear p hd hi hz0 hz1 hz2
  obtain ⟨n, hn⟩ : ∃ n, L.length = n := ⟨_, rfl⟩
  have HN := Lib.hid hn
  rw [hn] at c0 hle hL
  clear hn
  go_enter Try.func15, Try.ntmps15
  go_wp2_with fail
  go_loop [4, 10] (fun _ i => ∃ k : Nat, k ≤ n ∧ i = .int .i64 k ∧ Hid (∀ j x, j < k → L[j]? = some x → x.key ≠ key)) (fun _ i => n - (intOf i).toNat)
  case atStart => exact ⟨0, Nat.zero_le _, rfl, Lib.hid (fun j x h => by omega)⟩
  case round =>
    obtain ⟨k, hk, rfl, hno⟩ := hrel
    by_cases hlt : k < n
    · obtain ⟨y, hy⟩ : ∃ y, L[k]? = some y := ⟨_, List.getElem?_eq_getElem (by have := HN.out; omega)⟩
      obtain ⟨y0, y1⟩ := itemCells_at L k y hy
      obtain ⟨g, off, rfl, hg, e0⟩ := P.out.vals.at (k * 2) y0
      have HY := Lib.hid hy
      clear y0 y1 hy
      have hkk : (k : Int) < n := by omega
      by_cases heq : y.key = key
      · have hb : (y.key.toList == key.toList) = true := by rw [heq]; simp
        have HEQ := Lib.hid heq
        clear heq
        have hkn : ((k : Int) + 1) ≤ n := by omega
        have k0 : (0 : Int) ≤ (k : Int) := by omega
        have hkcap : (k : Int) ≤ cap := by omega
        have hkc : ((k : Int) + 1) ≤ cap := by omega
        have HB0 := Lib.hid (show Below w.heap.size w w.drew from (Below.refl _ _).drew)
        have HS0 := Lib.hid (show w.drew.cell? ⟨bm, 0, none⟩ = some (.slice (some ⟨g, off, none⟩) n cap) ∧ w.drew.frozen? ⟨bm, 0, none⟩ = false ∧ Below w.heap.size w w.drew from ⟨c0, f0, (Below.refl _ _).drew⟩)
        have k1 : (0 : Int) ≤ (k : Int) + 1 := by omega
        have hw1 : IntKind.i64.wrap ((k : Int) + 1) = (k : Int) + 1 := IntWalk.i64_in _ (by omega)
        go_wp2_with fail
        have ST1 := Lib.hid (fun (W : World) (hW : Below w.heap.size w W) => (src_take P.out hW k (by have := HN.out; omega) : Src W 2 (.slice (some ⟨g, off, none⟩) k cap) k (itemCells (L.take k))))
        have ST2 := Lib.hid (fun (W : World) (hW : Below w.heap.size w W) => src_drop P.out hW (k + 1) (by have := HN.out; omega) HN.out)
        have hm1 : 0 + k ≤ maxLen := by unfold maxLen; omega
        have hm2 : k + (n - (k + 1)) ≤ maxLen := by unfold maxLen; omega
        go_region_law
          (first
            | ((with_reducible apply step_app (hgd := rfl) (t := 37) (base := w.heap.size) (e := 46) (i := i0) (z := .agg #[.string ByteArray.empty, .int .i64 0]) (size := 2) (bytes := 24) (v := .slice none 0 0) (n := 0) (xs := []) (m := k) (news := itemCells (L.take k)) (ht := Try.underlying37) (hi := I1.out) (hz := I2.out) (hsize := I3.out) (hby := I4.out) (hzs := rfl)); (case ho => exact rfl); (case hs => exact rfl); (case hx => exact rfl); (case hsz => decide); (case hown => exact own_nil _ _ _ _); (case hsrc => exact ST1.out _ HB0.out); (case h1 => exact itemCells_one _); (case h63 => exact hm1); (case hbytes => omega); (case hbase => exact HB0.out.size); (intro v1 w1 hown1 hgrow1); (simp only [Nat.zero_add, List.nil_append] at hown1); (have hs1 := keepG1 HS0.out hbm hgrow1); (obtain ⟨k1, kf1, kb1⟩ := id hs1))
            | ((with_reducible apply step_app (hgd := rfl) (t := 37) (base := w.heap.size) (e := 46) (i := i0) (z := .agg #[.string ByteArray.empty, .int .i64 0]) (size := 2) (bytes := 24) (v := v1) (n := k) (xs := itemCells (L.take k)) (m := n - (k + 1)) (news := itemCells (L.drop (k + 1))) (ht := Try.underlying37) (hi := I1.out) (hz := I2.out) (hsize := I3.out) (hby := I4.out) (hzs := rfl)); (case ho => exact rfl); (case hs => exact rfl); (case hx => exact rfl); (case hsz => decide); (case hown => exact hown1); (case hsrc => exact ST2.out _ hs1.2.2); (case h1 => exact itemCells_one _); (case h63 => exact hm2); (case hbytes => omega); (case hbase => exact hs1.2.2.size); (intro v2 w2 hown2 hgrow2); (have hs2 := keepG2 hs1 hbm hown1 hgrow2); (obtain ⟨k2, kf2, kb2⟩ := id hs2); (obtain ⟨a2, cap2, rfl⟩ := ownsRow_slice hown2)))
        all_goals
          go_wp2_with fail
          all_goals refine bodyPost_ret (results_none rfl _ _ _) rfl ?_
          all_goals exact ⟨rfl, rem_fin HH.out HD.out HY.out HEQ.out HN.out kb2 hown2⟩
      · have hb : (y.key.toList == key.toList) = false := by
          simp only [beq_eq_false_iff_ne, ne_eq]
          exact fun e => heq (toList_inj e)
        have NO := Lib.hid (show ∀ (j : Nat) (x : Item), j < k + 1 → L[j]? = some x → x.key ≠ key from fun j x hj hx => by
          by_cases e : j = k
          · subst e; rw [HY.out] at hx; cases hx; exact heq
          · exact hno.out j x (by omega) hx)
        clear heq
        go_wp2_with fail
        go_round
        case rel => exact ⟨k + 1, by omega, by go_num, NO⟩
        case measure => simp [intOf]; omega
    · obtain rfl : k = n := by omega
      go_wp2_with fail
      go_end0
      have e : remL L key = L := rem_none L key (fun j x hx => hno.out j x (by have := (List.getElem?_eq_some_iff.1 hx).1; have := HN.out; omega) hx)
      exact ⟨rfl, R, by rw [e]; exact HH.out, Fr.refl _ _, fun j hj => .inl hj⟩
end Go.Proofs.Ytmbjkkoennadkaa
