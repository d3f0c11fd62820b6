/-
  The reference's Set: the key is there.
-/
import Derived.Test.YtbfkhghegkiifaaRefTLem
namespace Go.Proofs.Ytbfkhghegkiifaa
open Go.RowKit
set_option linter.unusedVariables false
theorem SetR.drew {w w' : World} {bm : Nat} {L : List Pr} {R : Nat → Prop} {k : ByteArray} {e : Ent} (h : SetR w w' bm L R k e) : SetR w w'.drew bm L R k e := by
  obtain ⟨L', R', h1, h2, h3, h4, h5, h6⟩ := h
  exact ⟨L', R', h1.below (Below.refl _ _).drew, h2, h3, h4, h5.drew, h6⟩
set_option maxRecDepth 100000 in
set_option maxHeartbeats 8000000 in
theorem rset_hit (bm : Nat) (R : Nat → Prop) (L : List Pr) (key : ByteArray) (e : Ent) (w : World) (hL : L.length ≤ 1000) (hA : Asc L) (h : RT w bm L R) (hx : ∃ x ∈ L, x.key = key) :
    Calls Try.prog 19 #[.pointer (some ⟨bm, 0, none⟩), .string key, entV e] w fun e' w' => e' = .returned (.tuple #[]) ∧ SetR w w' bm L R key e := by
  obtain ⟨i0, hi, hz0, hz1, hz2⟩ := info_parts prinfo
  have I1 := Lib.hid hi; have I2 := Lib.hid hz0; have I3 := Lib.hid hz1; have I4 := Lib.hid hz2
  clear hi hz0 hz1 hz2
  obtain ⟨v, p, hR⟩ := h
  have HR := Lib.hid hR
  have HA := Lib.hid hA
  have P := Lib.hid p
  have hbm := blk_lt p.blk
  have AT := Lib.hid (fun (W : World) (hW : Below w.heap.size w W) => at29 bm v L key W (by omega) (p.below hW))
  have HIT := Lib.hid hx
  clear hx
  clear hA hR p
  unfold entV
  go_enter Try.func19, Try.ntmps19
  go_wp2_with fail
  have hb0 : Below w.heap.size w (w.alloc (.cells #[.int .i64 e.seq, .int .i64 e.off, .int .i64 e.len, .int .i64 e.exp, .bool e.hit] 36)) := (Below.refl _ _).alloc (Nat.le_refl _) _
  with_reducible refine (AT.out _ hb0).mono ?_
  rintro e1 w2 ⟨i, b, rfl, hat, hbi, m, hw2⟩
  have HAT := Lib.hid hat
  have HBI := Lib.hid hbi
  have hx : w2.heap[w.heap.size]? = some (.cells #[.int .i64 e.seq, .int .i64 e.off, .int .i64 e.len, .int .i64 e.exp, .bool e.hit] 36 (0, 0)) := by
    rw [hw2]
    show (w.heap.push _)[w.heap.size]? = _
    simp
  have hb2 : Below w.heap.size w w2 := by rw [hw2]; exact below_drewN hb0 m
  have hbm2 : bm < w2.heap.size := Nat.lt_of_lt_of_le hbm hb2.size
  have P2 := Lib.hid (P.out.below hb2)
  have hs2 : w.heap.size < w2.heap.size := blk_lt hx
  clear hw2 hb0 hat hbi
  have x0 := blk_cell (i := 0) hx; have x1 := blk_cell (i := 1) hx; have x2 := blk_cell (i := 2) hx; have x3 := blk_cell (i := 3) hx; have x4 := blk_cell (i := 4) hx
  simp only [List.getElem?_toArray, List.getElem?_cons_zero, List.getElem?_cons_succ] at x0 x1 x2 x3 x4
  have HB2 := Lib.hid hb2
  clear hx hb2
  have c0 := blk_cell (i := 0) P2.out.blk
  have f0 := blk_free (i := 0) P2.out.blk
  simp only [List.getElem?_toArray, List.getElem?_cons_zero] at c0
  cases b with
  | false =>
    obtain ⟨x, hx, hk⟩ := HIT.out
    exact absurd hk (at_miss HAT.out HA.out (fun x hx hk => by have := HBI.out.2 ⟨x, hx, hk⟩; cases this) x hx)
  | true =>
    obtain ⟨y, hy, hk⟩ := HBI.out.1 rfl
    have hil := (List.getElem?_eq_some_iff.1 hy).1
    obtain ⟨a, cap, hv, _, hle, hmax⟩ := P2.out.len
    rcases P2.out.row.2 with ⟨hnil, h0⟩ | ⟨g, cap', cur, hvv, _, _, _⟩
    · omega
    rw [hvv] at hv
    cases hv
    subst hvv
    have cc : ∀ j, j < 6 → w2.cell? ⟨g, i * 6 + j, none⟩ = (prC y)[j]? := fun j hj => by
      rw [P2.out.row.cellAt (i * 6 + j) (by have := P2.out.row.1; rw [pairsC_len] at this; omega), pairsC_at L i y hy j hj]
    have q1 := cc 1 (by omega); have q2 := cc 2 (by omega); have q3 := cc 3 (by omega); have q4 := cc 4 (by omega); have q5 := cc 5 (by omega)
    simp only [prC, entC, List.getElem?_cons_zero, List.getElem?_cons_succ] at q1 q2 q3 q4 q5
    have g1 := P2.out.row.frozenAt (i * 6 + 1); have g2 := P2.out.row.frozenAt (i * 6 + 2); have g3 := P2.out.row.frozenAt (i * 6 + 3); have g4 := P2.out.row.frozenAt (i * 6 + 4); have g5 := P2.out.row.frozenAt (i * 6 + 5)
    have hgs := (P2.out.row.lt g rfl).2
    have HY := Lib.hid hy
    have HK := Lib.hid hk
    obtain ⟨n, hn⟩ : ∃ n, L.length = n := ⟨_, rfl⟩
    have HN := Lib.hid hn
    rw [hn] at c0 hle hil
    have hii : (i : Int) < n := by omega
    have SO := Lib.hid (show SetR w (setE w2 g i e).drew bm L R key e from SetR.drew (by
      have hn := HN.out
      subst hn
      exact set_over' P.out rfl HR.out HB2.out HA.out HY.out HK.out))
    unfold setE at SO
    clear cc hy hk hn
    go_wp2_with fail
    go_region
    all_goals
      go_wp2_with fail
      refine bodyPost_ret (results_none rfl _ _ _) rfl ?_
      exact ⟨rfl, SO.out⟩
end Go.Proofs.Ytbfkhghegkiifaa
