/-
  The reference's Set: the key is not there, the list is nil.
-/
import Derived.Test.YtbfkhghegkiifaaRefTLem
namespace Go.Proofs.Ytbfkhghegkiifaa
open Go.RowKit
set_option linter.unusedVariables false
set_option maxRecDepth 100000 in
set_option maxHeartbeats 8000000 in
theorem rset_nil (bm : Nat) (v : Value) (R : Nat → Prop) (L : List Pr) (key : ByteArray) (e : Ent) (w : World) (hL : L.length ≤ 1000) (hA : Asc L) (p : RTp w bm v L) (hR : R = fun k => k = bm ∨ v.ownBlock = some k) (hno : ∀ x ∈ L, x.key ≠ key) (hv0 : v = .slice none 0 0 ∧ L = []) :
    Calls Try.prog 19 #[.pointer (some ⟨bm, 0, none⟩), .string key, entV e] w fun e' w' => e' = .returned (.tuple #[]) ∧ SetR w w' bm L R key e := by
  obtain ⟨i0, hi, hz0, hz1, hz2⟩ := info_parts prinfo
  have I1 := Lib.hid hi; have I2 := Lib.hid hz0; have I3 := Lib.hid hz1; have I4 := Lib.hid hz2
  clear hi hz0 hz1 hz2
  have HR := Lib.hid hR
  have HA := Lib.hid hA
  have P := Lib.hid p
  have hbm := blk_lt p.blk
  have AT := Lib.hid (fun (W : World) (hW : Below w.heap.size w W) => at29 bm v L key W (by omega) (p.below hW))
  have NOK := Lib.hid hno
  clear hno
  have HV0 := Lib.hid hv0
  clear hv0
  clear hA hR p
  unfold entV
  go_enter Try.func19, Try.ntmps19
  go_wp2_with fail
  have hb0 : Below w.heap.size w (w.alloc (.cells #[.int .i64 e.seq, .int .i64 e.off, .int .i64 e.len, .int .i64 e.exp, .bool e.hit] 36)) := (Below.refl _ _).alloc (Nat.le_refl _) _
  with_reducible refine (AT.out _ hb0).mono ?_
  rintro e1 w2 ⟨i, b, rfl, hat, hbi, m, hw2⟩
  have HAT := Lib.hid hat
  have HBI := Lib.hid hbi
  have hx : w2.heap[w.heap.size]? = some (.cells #[.int .i64 e.seq, .int .i64 e.off, .int .i64 e.len, .int .i64 e.exp, .bool e.hit] 36 (0, 0)) := by
    rw [hw2]
    show (w.heap.push _)[w.heap.size]? = _
    simp
  have hb2 : Below w.heap.size w w2 := by rw [hw2]; exact below_drewN hb0 m
  have hbm2 : bm < w2.heap.size := Nat.lt_of_lt_of_le hbm hb2.size
  have P2 := Lib.hid (P.out.below hb2)
  have hs2 : w.heap.size < w2.heap.size := blk_lt hx
  clear hw2 hb0 hat hbi
  have x0 := blk_cell (i := 0) hx; have x1 := blk_cell (i := 1) hx; have x2 := blk_cell (i := 2) hx; have x3 := blk_cell (i := 3) hx; have x4 := blk_cell (i := 4) hx
  simp only [List.getElem?_toArray, List.getElem?_cons_zero, List.getElem?_cons_succ] at x0 x1 x2 x3 x4
  have HB2 := Lib.hid hb2
  clear hx hb2
  have c0 := blk_cell (i := 0) P2.out.blk
  have f0 := blk_free (i := 0) P2.out.blk
  simp only [List.getElem?_toArray, List.getElem?_cons_zero] at c0
  cases b with
  | true =>
    obtain ⟨y, hy, hk⟩ := HBI.out.1 rfl
    exact absurd hk (NOK.out y (List.mem_of_getElem? hy))
  | false =>
    have NE := Lib.hid (show ∀ x, L[i]? = some x → x.key ≠ key from fun x hx e => by have := HBI.out.2 ⟨x, hx, e⟩; cases this)
    obtain rfl := HV0.out.1
    have hL0 := HV0.out.2
    have hi0 : i = 0 := by have := HAT.out.le; rw [hL0] at this; simpa using this
    subst hi0
    have ST1 := Lib.hid (fun (W : World) (hW : Below w2.heap.size w2 W) => (Vals.src Vals.nil rfl (fun _ => ⟨rfl, rfl⟩) : Src W 6 (.slice none 0 0) 0 []))
    have ST2 := Lib.hid (fun (W : World) (hW : Below w2.heap.size w2 W) => (Vals.src Vals.nil rfl (fun _ => ⟨rfl, rfl⟩) : Src W 6 (.slice none 0 0) 0 []))
    go_wp2_with (at_builtin; refine Stop.out ?_)
    refine Stop.of (wpList_app rfl _ _ 28 rfl w2.heap.size 38 i0 (.agg #[.string ByteArray.empty, .int .i64 0, .int .i64 0, .int .i64 0, .int .i64 0, .bool false]) 6 56 Try.underlying28 I1.out I2.out I3.out I4.out rfl (by decide) _ 0 [] rfl (own_nil _ _ _ _) _ 0 ([]) rfl (ST1.out _ (Below.refl _ _)) (by simp) (by unfold maxLen; omega) (by omega) (Nat.le_refl _) ?_)
    intro v3 w3 hown3 hg3
    simp only [Nat.zero_add, List.nil_append] at hown3
    have hs3 := keepG1 ⟨c0, f0, Below.refl _ _⟩ hbm2 hg3
    have S3 := Lib.hid hs3
    have O3 := Lib.hid hown3
    obtain ⟨k3, kf3, kb3⟩ := hs3
    have hsz3 := kb3.size
    have bw3 : w.heap.size < w3.heap.size := by omega
    have y0 := (kb3.cell (p := ⟨w.heap.size, 0, none⟩) hs2).trans x0
    have y1 := (kb3.cell (p := ⟨w.heap.size, 1, none⟩) hs2).trans x1
    have y2 := (kb3.cell (p := ⟨w.heap.size, 2, none⟩) hs2).trans x2
    have y3 := (kb3.cell (p := ⟨w.heap.size, 3, none⟩) hs2).trans x3
    have y4 := (kb3.cell (p := ⟨w.heap.size, 4, none⟩) hs2).trans x4
    clear hown3 hg3 c0 f0 kb3 x0 x1 x2 x3 x4
    have hm3 : 0 + 1 ≤ maxLen := by unfold maxLen; omega
    have hm4 : 0 + 1 + (0) ≤ maxLen := by unfold maxLen; omega
    go_wp2_with fail
    have S4 := Lib.hid (show (w3.alloc (.cells #[.string key, .int .i64 e.seq, .int .i64 e.off, .int .i64 e.len, .int .i64 e.exp, .bool e.hit] 38)).drew.cell? ⟨bm, 0, none⟩ = some (.slice none 0 0) ∧ (w3.alloc (.cells #[.string key, .int .i64 e.seq, .int .i64 e.off, .int .i64 e.len, .int .i64 e.exp, .bool e.hit] 38)).drew.frozen? ⟨bm, 0, none⟩ = false ∧ Below w2.heap.size w2 (w3.alloc (.cells #[.string key, .int .i64 e.seq, .int .i64 e.off, .int .i64 e.len, .int .i64 e.exp, .bool e.hit] 38)).drew from keepG4 S3.out hbm2)
    have q4 : (w3.alloc (.cells #[.string key, .int .i64 e.seq, .int .i64 e.off, .int .i64 e.len, .int .i64 e.exp, .bool e.hit] 38)).cell? ⟨bm, 0, none⟩ = some (.slice none 0 0) := (keepG3 S3.out hbm2).1
    have qf4 : (w3.alloc (.cells #[.string key, .int .i64 e.seq, .int .i64 e.off, .int .i64 e.len, .int .i64 e.exp, .bool e.hit] 38)).frozen? ⟨bm, 0, none⟩ = false := (keepG3 S3.out hbm2).2.1
    have hsz4 : w2.heap.size ≤ (w3.alloc (.cells #[.string key, .int .i64 e.seq, .int .i64 e.off, .int .i64 e.len, .int .i64 e.exp, .bool e.hit] 38)).drew.heap.size := S4.out.2.2.size
    go_region_law
      (first
        | ((with_reducible apply step_app (hgd := rfl) (t := 28) (base := w2.heap.size) (e := 38) (i := i0) (z := .agg #[.string ByteArray.empty, .int .i64 0, .int .i64 0, .int .i64 0, .int .i64 0, .bool false]) (size := 6) (bytes := 56) (v := v3) (n := 0) (xs := []) (m := 1) (news := [.string key, .int .i64 e.seq, .int .i64 e.off, .int .i64 e.len, .int .i64 e.exp, .bool e.hit]) (ht := Try.underlying28) (hi := I1.out) (hz := I2.out) (hsize := I3.out) (hby := I4.out) (hzs := rfl)); (case ho => exact rfl); (case hs => exact rfl); (case hx => exact rfl); (case hsz => decide); (case hown => exact (O3.out.alloc _).drew); (case hsrc => exact src_lit #[.string key, .int .i64 e.seq, .int .i64 e.off, .int .i64 e.len, .int .i64 e.exp, .bool e.hit] (0, 0) (heap_alloc_new w3 _) rfl); (case h1 => exact one6 key e); (case h63 => exact hm3); (case hbytes => omega); (case hbase => exact hsz4); (intro v5 w5 hown5 hgrow5); (have hs5 := keepG2 S4.out hbm2 ((O3.out.alloc _).drew) hgrow5); (obtain ⟨k5, kf5, kb5⟩ := id hs5))
        | ((with_reducible apply step_app (hgd := rfl) (t := 28) (base := w2.heap.size) (e := 38) (i := i0) (z := .agg #[.string ByteArray.empty, .int .i64 0, .int .i64 0, .int .i64 0, .int .i64 0, .bool false]) (size := 6) (bytes := 56) (v := v5) (n := 0 + 1) (xs := [] ++ [.string key, .int .i64 e.seq, .int .i64 e.off, .int .i64 e.len, .int .i64 e.exp, .bool e.hit]) (m := 0) (news := []) (ht := Try.underlying28) (hi := I1.out) (hz := I2.out) (hsize := I3.out) (hby := I4.out) (hzs := rfl)); (case ho => exact rfl); (case hs => exact rfl); (case hx => exact rfl); (case hsz => decide); (case hown => exact hown5); (case hsrc => exact ST2.out _ hs5.2.2); (case h1 => first | exact pairsC_cell _ | simp); (case h63 => exact hm4); (case hbytes => omega); (case hbase => exact hs5.2.2.size); (intro v6 w6 hown6 hgrow6); (have hs6 := keepG2 hs5 hbm2 hown5 hgrow6); (obtain ⟨k6, kf6, kb6⟩ := id hs6); (obtain ⟨a6, cap6, rfl⟩ := ownsRow_slice hown6)))
    all_goals
      go_wp2_with fail
      all_goals go_end0
      all_goals exact ⟨rfl, SetR.pre HB2.out (set_ins' P2.out HR.out kb6 HA.out HAT.out NE.out (by rw [hL0]; exact hown6) (by rw [hL0]; rfl))⟩
end Go.Proofs.Ytbfkhghegkiifaa
