/-
  The reference's Get.
-/
import Derived.Test.YtkjhofmimggpnaaRefTLem
namespace Go.Proofs.Ytkjhofmimggpnaa
open Go.RowKit
set_option linter.unusedVariables false
def GetR (w : World) (L : List Pr) (k : ByteArray) (e : Ending) (w' : World) : Prop :=
  ∃ b x, e = .returned (.tuple #[entV x, .bool b]) ∧ (b = true → ⟨k, x⟩ ∈ L) ∧ (b = false → x = ent0 ∧ ∀ e, ⟨k, e⟩ ∉ L) ∧ Below w.heap.size w w'
theorem set5_below {w w2 : World} (hb : Below w.heap.size w w2) (x : Ent) : Below w.heap.size w (set5 w2 w.heap.size x) := by
  unfold set5
  have hs := hb.size
  have st : ∀ (W : World) (i : Nat) (v : Value), Below w.heap.size w W → Below w.heap.size w (W.setCell ⟨w.heap.size, i, none⟩ v) := fun W i v h => h.setCell (p := ⟨w.heap.size, i, none⟩) (Nat.le_refl _) v
  exact st _ _ _ (st _ _ _ (st _ _ _ (st _ _ _ (st _ _ _ hb))))
set_option maxRecDepth 100000 in
set_option maxHeartbeats 8000000 in
theorem rget18 (bm : Nat) (v : Value) (L : List Pr) (key : ByteArray) (w : World) (hL : L.length ≤ 1000000) (hA : Asc L) (h : RTp w bm v L) :
    Calls Try.prog 18 #[.pointer (some ⟨bm, 0, none⟩), .string key] w (GetR w L key) := by
  have HA := Lib.hid hA
  have P := Lib.hid h
  have hbm := blk_lt h.blk
  have AT := Lib.hid (fun (W : World) (hW : Below w.heap.size w W) => at29 bm v L key W hL (h.below hW))
  clear hA h
  go_enter Try.func18, Try.ntmps18
  go_wp2_with fail
  have hb0 : Below w.heap.size w (w.alloc (.cells #[.int .i64 0, .int .i64 0, .int .i64 0, .int .i64 0, .bool false] 27)) := (Below.refl _ _).alloc (Nat.le_refl _) _
  with_reducible refine (AT.out _ hb0).mono ?_
  rintro e1 w2 ⟨i, b, rfl, hat, hbi, m, hw2⟩
  have HAT := Lib.hid hat
  have HBI := Lib.hid hbi
  have hx : w2.heap[w.heap.size]? = some (.cells #[.int .i64 0, .int .i64 0, .int .i64 0, .int .i64 0, .bool false] 27 (0, 0)) := by
    rw [hw2]
    show (w.heap.push _)[w.heap.size]? = _
    simp
  have hb2 : Below w.heap.size w w2 := by rw [hw2]; exact below_drewN hb0 m
  have hbm2 : bm < w2.heap.size := Nat.lt_of_lt_of_le hbm hb2.size
  have P2 := Lib.hid (P.out.below hb2)
  have hs2 : w.heap.size < w2.heap.size := blk_lt hx
  have HX := Lib.hid hx
  have HB2 := Lib.hid hb2
  clear hw2 hb0 hat hbi
  have x0 := blk_cell (i := 0) hx; have x1 := blk_cell (i := 1) hx; have x2 := blk_cell (i := 2) hx; have x3 := blk_cell (i := 3) hx; have x4 := blk_cell (i := 4) hx
  have y0 := blk_free (i := 0) hx; have y1 := blk_free (i := 1) hx; have y2 := blk_free (i := 2) hx; have y3 := blk_free (i := 3) hx; have y4 := blk_free (i := 4) hx
  simp only [List.getElem?_toArray, List.getElem?_cons_zero, List.getElem?_cons_succ] at x0 x1 x2 x3 x4
  clear hx hb2
  have c0 := blk_cell (i := 0) P2.out.blk
  simp only [List.getElem?_toArray, List.getElem?_cons_zero] at c0
  cases b with
  | true =>
    obtain ⟨y, hy, hk⟩ := HBI.out.1 rfl
    have hil := (List.getElem?_eq_some_iff.1 hy).1
    rcases P2.out.form with ⟨rfl, hL0⟩ | ⟨g, off, cap, rfl, vals, hle, hmax, hgs⟩
    · rw [hL0] at hil; simp at hil
    obtain ⟨g', off', ha', _, q0, q1, q2, q3, q4, q5⟩ := vals.pair i y hy
    simp only [Option.some.injEq, Addr.mk.injEq, and_true] at ha'
    obtain ⟨rfl, rfl⟩ := ha'
    have HM := Lib.hid (show (⟨key, y.en⟩ : Pr) ∈ L from by have := List.mem_of_getElem? hy; rw [← hk]; exact this)
    obtain ⟨n, hn⟩ : ∃ n, L.length = n := ⟨_, rfl⟩
    rw [hn] at c0 hle hil
    have hii : (i : Int) < n := by omega
    clear hy hk hn vals
    go_wp2_with fail
    obtain ⟨w3, hw3⟩ : ∃ w3, set5 w2 w.heap.size y.en = w3 := ⟨_, rfl⟩
    obtain ⟨r0, r1, r2, r3, r4⟩ := set5_cells HX.out y.en
    have GE := Lib.hid (set5_below HB2.out y.en)
    have hw3' := hw3
    unfold set5 at hw3'
    rw [hw3] at r0 r1 r2 r3 r4 GE
    rw [hw3']
    refine bodyPost_ret (v := .tuple #[entV y.en, .bool true]) (by simp [results, Try.results18, go_sem, r0, r1, r2, r3, r4]; try rfl) rfl ?_
    exact ⟨true, y.en, rfl, fun _ => HM.out, fun h => (by cases h), GE.out⟩
  | false =>
    have NO := Lib.hid (show ∀ e, (⟨key, e⟩ : Pr) ∉ L from fun e he => at_miss HAT.out HA.out (fun x hx hk => by have := HBI.out.2 ⟨x, hx, hk⟩; cases this) _ he rfl)
    go_wp2_with fail
    obtain ⟨w3, hw3⟩ : ∃ w3, set5 w2 w.heap.size ent0 = w3 := ⟨_, rfl⟩
    obtain ⟨r0, r1, r2, r3, r4⟩ := set5_cells HX.out ent0
    have GE := Lib.hid (set5_below HB2.out ent0)
    have hw3' := hw3
    simp only [set5, ent0] at hw3'
    rw [hw3] at r0 r1 r2 r3 r4 GE
    rw [hw3']
    refine bodyPost_ret (v := .tuple #[entV ent0, .bool false]) (by simp [results, Try.results18, go_sem, r0, r1, r2, r3, r4]; try rfl) rfl ?_
    exact ⟨false, ent0, rfl, fun h => (by cases h), fun _ => ⟨rfl, NO.out⟩, GE.out⟩
end Go.Proofs.Ytkjhofmimggpnaa
