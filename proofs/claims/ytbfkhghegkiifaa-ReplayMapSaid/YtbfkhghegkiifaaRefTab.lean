/-
  The reference's table: the object; the place of a key.
-/
import Derived.Test.YtbfkhghegkiifaaPairsMem
import Derived.Test.YtbfkhghegkiifaaRefTPlain
import Derived.Test.YtbfkhghegkiifaaFrame
import Derived.Deep.QuietTactic
namespace Go.Proofs.Ytbfkhghegkiifaa
open Go.RowKit
set_option linter.unusedVariables false
structure RTp (w : World) (bm : Nat) (v : Value) (L : List Pr) : Prop where
  blk : w.heap[bm]? = some (.cells #[v] 56 (0, 0))
  row : w.ownsRow 0 38 6 v L.length (pairsC L)
  ne : v.ownBlock ≠ some bm
theorem RTp.frame {w w' : World} {bm : Nat} {v : Value} {L : List Pr} {S : Nat → Prop} (h : RTp w bm v L) (hf : Fr S w w') (h1 : ¬ S bm) (h2 : ∀ g, v.ownBlock = some g → ¬ S g) : RTp w' bm v L :=
  ⟨(hf.block bm (blk_lt h.blk) h1).trans h.blk, own_fr h.row hf h2, h.ne⟩
theorem RTp.below {w w' : World} {bm : Nat} {v : Value} {L : List Pr} (h : RTp w bm v L) (hb : Below w.heap.size w w') : RTp w' bm v L := h.frame (S := fun _ => False) (.of_below hb) (fun f => f) (fun _ _ f => f)
/-- the object at block bm stands for the list L; R: the blocks that it lies in -/
def RT (w : World) (bm : Nat) (L : List Pr) (R : Nat → Prop) : Prop := ∃ v, RTp w bm v L ∧ R = fun k => k = bm ∨ v.ownBlock = some k
theorem RT.lt {w : World} {bm : Nat} {L : List Pr} {R : Nat → Prop} (h : RT w bm L R) : ∀ k, R k → k < w.heap.size := by
  obtain ⟨v, p, rfl⟩ := h
  rintro k (rfl | e)
  · exact blk_lt p.blk
  · exact (p.row.lt k e).2
theorem RT.frame {w w' : World} {bm : Nat} {L : List Pr} {R T : Nat → Prop} (h : RT w bm L R) (hf : Fr T w w') (hd : ∀ k, R k → ¬ T k) : RT w' bm L R := by
  obtain ⟨v, p, rfl⟩ := h
  exact ⟨v, p.frame hf (hd bm (.inl rfl)) (fun g hg => hd g (.inr hg)), rfl⟩
theorem RT.below {w w' : World} {bm : Nat} {L : List Pr} {R : Nat → Prop} (h : RT w bm L R) (hb : Below w.heap.size w w') : RT w' bm L R := h.frame (T := fun _ => False) (.of_below hb) (fun _ _ f => f)
theorem RTp.len {w : World} {bm : Nat} {v : Value} {L : List Pr} (h : RTp w bm v L) : ∃ a cap, v = .slice a L.length cap ∧ Vals w a (pairsC L) ∧ L.length ≤ cap ∧ cap ≤ maxLen := by
  obtain ⟨a, cap, h1, h2, h3, h4, _⟩ := ownsRow_vals h.row
  exact ⟨a, cap, h1, h2, h3, h4⟩
def AtE (w : World) (L : List Pr) (key : ByteArray) (e : Ending) (w' : World) : Prop :=
  ∃ (i : Nat) (b : Bool), e = .returned (.tuple #[.int .i64 (i : Int), .bool b]) ∧ AtR L key i ∧ (b = true ↔ ∃ x, L[i]? = some x ∧ x.key = key) ∧ ∃ m, w' = w.drewN m
theorem at_end {w : World} {L : List Pr} {key : ByteArray} {n k : Nat} (hn : L.length = n) (hk : k ≤ n) (hno : ∀ (j : Nat) (x : Pr), j < k → L[j]? = some x → ltS x.key key = true) (h : ∀ x, L[k]? = some x → ltS x.key key = false) (b : Bool) (hb : b = true ↔ ∃ x, L[k]? = some x ∧ x.key = key) (m : Nat) :
    AtE w L key (.returned (.tuple #[.int .i64 (k : Int), .bool b])) (w.drewN m) := ⟨k, b, rfl, ⟨by omega, hno, h⟩, hb, m, rfl⟩
set_option maxRecDepth 100000 in
set_option maxHeartbeats 4000000 in
theorem at29 (bm : Nat) (v : Value) (L : List Pr) (key : ByteArray) (w : World) (hL : L.length ≤ 1000000) (h : RTp w bm v L) :
    Calls Try.prog 30 #[.pointer (some ⟨bm, 0, none⟩), .string key] w (AtE w L key) := by
  obtain ⟨a, cap, rfl, hv, hle, hmax⟩ := h.len
  have c0 := blk_cell (i := 0) h.blk
  simp only [List.getElem?_toArray, List.getElem?_cons_zero] at c0
  have hbm := blk_lt h.blk
  have HV := Lib.hid hv
  clear h hv hmax
  obtain ⟨n, hn⟩ : ∃ n, L.length = n := ⟨_, rfl⟩
  have HN := Lib.hid hn
  rw [hn] at c0 hle hL
  clear hn
  go_enter Try.func30, Try.ntmps30
  go_wp2_with fail
  go_loop [6] (fun i => ∃ k : Nat, k ≤ n ∧ i = .int .i64 k ∧ Hid (∀ (j : Nat) (x : Pr), j < k → L[j]? = some x → ltS x.key key = true)) (fun i => n - (intOf i).toNat)
  case atStart => exact ⟨0, Nat.zero_le _, rfl, Lib.hid (fun j x h => by omega)⟩
  case round =>
    obtain ⟨k, hk, rfl, hno⟩ := hrel
    by_cases hlt : k < n
    · obtain ⟨y, hy⟩ : ∃ y, L[k]? = some y := ⟨_, List.getElem?_eq_getElem (by have := HN.out; omega)⟩
      obtain ⟨g, off, rfl, hg, e0, -, -, -, -, -⟩ := HV.out.pair k y hy
      have HY := Lib.hid hy
      clear hy
      have hkk : (k : Int) < n := by omega
      cases hC : Op.bytesLess y.key.toList key.toList with
      | true =>
        have NO := Lib.hid (show ∀ (j : Nat) (x : Pr), j < k + 1 → L[j]? = some x → ltS x.key key = true from fun j x hj hx => by
          by_cases e : j = k
          · subst e; rw [HY.out] at hx; cases hx; exact hC
          · exact hno.out j x (by omega) hx)
        go_wp2_with fail
        go_round
        case rel => exact ⟨k + 1, by omega, by go_num, NO⟩
        case measure => simp [intOf]; omega
      | false =>
        have HC := Lib.hid (show ∀ x, L[k]? = some x → ltS x.key key = false from fun x hx => by rw [HY.out] at hx; cases hx; exact hC)
        by_cases heq : y.key = key
        · have hb : (y.key.toList == key.toList) = true := by rw [heq]; simp
          have HB := Lib.hid (show ∃ x, L[k]? = some x ∧ x.key = key from ⟨y, HY.out, heq⟩)
          clear heq
          go_wp2_with fail
          go_quiet (fail)
          go_wp2_with fail
          go_ret2
          exact at_end HN.out (by omega) hno.out HC.out true ⟨fun _ => HB.out, fun _ => rfl⟩ nq
        · have hb : (y.key.toList == key.toList) = false := by
            simp only [beq_eq_false_iff_ne, ne_eq]
            exact fun e => heq (toList_inj e)
          have HB := Lib.hid (show (false = true ↔ ∃ x, L[k]? = some x ∧ x.key = key) from ⟨fun h => (by cases h), fun ⟨x, hx, hk⟩ => by rw [HY.out] at hx; cases hx; exact absurd hk heq⟩)
          clear heq
          go_wp2_with fail
          go_quiet (fail)
          go_wp2_with fail
          go_ret2
          exact at_end HN.out (by omega) hno.out HC.out false HB.out nq
    · obtain rfl : k = n := by omega
      have HC := Lib.hid (show ∀ x, L[k]? = some x → ltS x.key key = false from fun x hx => by have := (List.getElem?_eq_some_iff.1 hx).1; have := HN.out; omega)
      have HB := Lib.hid (show (false = true ↔ ∃ x, L[k]? = some x ∧ x.key = key) from ⟨fun h => (by cases h), fun ⟨x, hx, _⟩ => by have := (List.getElem?_eq_some_iff.1 hx).1; have := HN.out; omega⟩)
      go_wp2_with fail
      go_quiet (fail)
      go_wp2_with fail
      go_ret2
      exact at_end HN.out (by omega) hno.out HC.out false HB.out nq
end Go.Proofs.Ytbfkhghegkiifaa
