/-
  Contracts of slices.ContainsFunc at regions, of the function literal in geometry.Free, and of geometry.Free.
-/
import Derived.Test.YtkafffoaaklhiaaGeo3
import Derived.Test.YtkafffoaaklhiaaReadLay
namespace Go.Proofs.Ytkafffoaaklhiaa
open Go.RowKit
/-- a region: its header's six numbers, and its layout -/
structure Reg where
  ver : Int
  slot : Int
  lay : Int
  seq : Int
  tail : Int
  now : Int
  l : Lay
def Reg.cells (r : Reg) : List Value := [.int .i64 r.ver, .int .i64 r.slot, .int .i64 r.lay, .int .i64 r.seq, .int .i64 r.tail, .int .i64 r.now, .int .i64 r.l.id, .int .i64 r.l.ver, .int .i64 r.l.rs, .int .i64 r.l.rg]
/-- the cells of a layout at an address -/
def LayAt (w : World) (b o : Nat) (l : Lay) : Prop :=
  w.cell? ⟨b, o, none⟩ = some (.int .i64 l.id) ∧ w.cell? ⟨b, o + 1, none⟩ = some (.int .i64 l.ver) ∧ w.cell? ⟨b, o + 2, none⟩ = some (.int .i64 l.rs) ∧ w.cell? ⟨b, o + 3, none⟩ = some (.int .i64 l.rg)
set_option maxHeartbeats 1000000 in
theorem lit22 (r : Reg) (t : Lay) (tb ib : Nat) (i : Int) (w : World)
    (t0 : w.cell? ⟨tb, 0, none⟩ = some (.int .i64 t.id)) (t1 : w.cell? ⟨tb, 1, none⟩ = some (.int .i64 t.ver)) (t2 : w.cell? ⟨tb, 2, none⟩ = some (.int .i64 t.rs)) (t3 : w.cell? ⟨tb, 3, none⟩ = some (.int .i64 t.rg))
    (hi : w.cell? ⟨ib, 0, none⟩ = some (.int .i64 i)) :
    Calls Try.prog 41 #[.agg #[.int .i64 r.ver, .int .i64 r.slot, .int .i64 r.lay, .int .i64 r.seq, .int .i64 r.tail, .int .i64 r.now, .int .i64 r.l.id, .int .i64 r.l.ver, .int .i64 r.l.rs, .int .i64 r.l.rg], .pointer (some ⟨tb, 0, none⟩), .pointer (some ⟨ib, 0, none⟩)] w
      fun e w' => e = .returned (.bool (overlapB t i r.l r.slot)) ∧ Below w.heap.size w w' := by
  have lt1 := World.block_lt_of_cell? _ _ t0
  have lt2 := World.block_lt_of_cell? _ _ hi
  simp only at lt1 lt2
  go_enter Try.func41, Try.ntmps41
  go_wp2_with fail
  with_reducible refine (overlap8 _ _ _ _ _ _ _ _ _ _ _).mono ?_
  rintro e w1 ⟨rfl, hb⟩
  go_wp2_with fail
  go_ret
  exact ⟨rfl, bel1 hb⟩
/-- the function literal's value: it has captured the target and the variable i -/
def litV (tb ib : Nat) : Value := .func (.func 41) #[] #[.pointer (some ⟨tb, 0, none⟩), .pointer (some ⟨ib, 0, none⟩)]
/-- the regions of a slice -/
def RegsAt (w : World) (a : Option Addr) (len : Nat) (f : Nat → Reg) : Prop :=
  ∀ i, i < len → ∃ b off, a = some ⟨b, off, none⟩ ∧ b < w.heap.size ∧ ∀ j, j < 10 → w.cell? ⟨b, off + (i * 10 + j), none⟩ = (f i).cells[j]?
theorem RegsAt.below {w w' : World} {B : Nat} {a : Option Addr} {len : Nat} {f : Nat → Reg} (h : RegsAt w a len f) (hb : Below B w w') (hB : w.heap.size ≤ B) : RegsAt w' a len f := by
  intro i hi
  obtain ⟨b, off, ha, hlt, hc⟩ := h i hi
  refine ⟨b, off, ha, Nat.lt_of_lt_of_le hlt hb.size, fun j hj => ?_⟩
  rw [hb.cell (by show b < B; omega)]; exact hc j hj
/-- the ten cells of a region at an address, as the walk spells them -/
def RegCells (w : World) (b o : Nat) (r : Reg) : Prop :=
  w.cell? ⟨b, o, none⟩ = some (.int .i64 r.ver) ∧ w.cell? ⟨b, o + 1, none⟩ = some (.int .i64 r.slot) ∧ w.cell? ⟨b, o + 2, none⟩ = some (.int .i64 r.lay) ∧ w.cell? ⟨b, o + 3, none⟩ = some (.int .i64 r.seq) ∧ w.cell? ⟨b, o + 4, none⟩ = some (.int .i64 r.tail) ∧ w.cell? ⟨b, o + 5, none⟩ = some (.int .i64 r.now) ∧ w.cell? ⟨b, o + 6, none⟩ = some (.int .i64 r.l.id) ∧ w.cell? ⟨b, o + 7, none⟩ = some (.int .i64 r.l.ver) ∧ w.cell? ⟨b, o + 8, none⟩ = some (.int .i64 r.l.rs) ∧ w.cell? ⟨b, o + 9, none⟩ = some (.int .i64 r.l.rg)
theorem RegsAt.at {w : World} {a : Option Addr} {len : Nat} {f : Nat → Reg} (h : RegsAt w a len f) (i : Nat) (hi : i < len) : ∃ b off, a = some ⟨b, off, none⟩ ∧ b < w.heap.size ∧ RegCells w b (off + i * 10) (f i) := by
  obtain ⟨b, off, ha, hlt, hc⟩ := h i hi
  refine ⟨b, off, ha, hlt, ?_⟩
  have g : ∀ j, j < 10 → w.cell? ⟨b, off + i * 10 + j, none⟩ = (f i).cells[j]? := fun j hj => by rw [Nat.add_assoc]; exact hc j hj
  exact ⟨g 0 (by omega), g 1 (by omega), g 2 (by omega), g 3 (by omega), g 4 (by omega), g 5 (by omega), g 6 (by omega), g 7 (by omega), g 8 (by omega), g 9 (by omega)⟩
/-- the first of the first k regions that meets the slot; the reference's question 'hit' -/
def anyHit (t : Lay) (i : Int) (f : Nat → Reg) : Nat → Bool
  | 0 => false
  | k + 1 => anyHit t i f k || overlapB t i (f k).l (f k).slot
set_option maxHeartbeats 1000000 in
theorem index23 (a : Option Addr) (len cap : Nat) (f : Nat → Reg) (t : Lay) (tb ib : Nat) (i0 : Int) (w : World) (hl : len ≤ 9223372036854775807) (hr : RegsAt w a len f)
    (t0 : w.cell? ⟨tb, 0, none⟩ = some (.int .i64 t.id)) (t1 : w.cell? ⟨tb, 1, none⟩ = some (.int .i64 t.ver)) (t2 : w.cell? ⟨tb, 2, none⟩ = some (.int .i64 t.rs)) (t3 : w.cell? ⟨tb, 3, none⟩ = some (.int .i64 t.rg))
    (hi : w.cell? ⟨ib, 0, none⟩ = some (.int .i64 i0)) :
    Calls Try.prog 46 #[.slice a len cap, .func (.func 41) #[] #[.pointer (some ⟨tb, 0, none⟩), .pointer (some ⟨ib, 0, none⟩)]] w
      fun e w' => ∃ n : Int, e = .returned (.int .i64 n) ∧ decide (0 ≤ n) = anyHit t i0 f len ∧ Below w.heap.size w w' := by
  have lt1 := World.block_lt_of_cell? _ _ t0
  have lt2 := World.block_lt_of_cell? _ _ hi
  simp only at lt1 lt2
  have HR := Lib.hid hr
  have T := Lib.hid (⟨t0, t1, t2, t3, hi⟩ : _ ∧ _ ∧ _ ∧ _ ∧ _)
  clear hr t0 t1 t2 t3 hi
  go_enter Try.func46, Try.ntmps46
  go_wp2_with fail
  go_loopw [5, 8] (fun _ i wr => ∃ k : Nat, k ≤ len ∧ i = .int .i64 k ∧ anyHit t i0 f k = false ∧ Below w.heap.size w wr) (fun _ i _ => len - (intOf i).toNat)
  case atStart => exact ⟨0, Nat.zero_le _, rfl, rfl, Below.refl _ _⟩
  case round =>
    obtain ⟨k, hk, rfl, hn, hb⟩ := hrel
    have HN := Lib.hid hn
    have B := Lib.hid hb
    clear hn hb
    by_cases hlt : k < len
    · obtain ⟨b, off, rfl, hlt2, hc⟩ := (HR.out.below B.out (Nat.le_refl _)).at k hlt
      obtain ⟨g0, g1, g2, g3, g4, g5, g6, g7, g8, g9⟩ := hc
      have hB := B.out
      obtain ⟨t0, t1, t2, t3, hi⟩ := T.out
      have HC := Lib.hid (lit22 (f k) t tb ib i0 wr (by rw [hB.cell lt1]; exact t0) (by rw [hB.cell lt1]; exact t1) (by rw [hB.cell lt1]; exact t2) (by rw [hB.cell lt1]; exact t3) (by rw [hB.cell lt2]; exact hi))
      clear hB t0 t1 t2 t3 hi
      go_wp2_with fail
      with_reducible refine HC.out.mono ?_
      rintro e w1 ⟨rfl, hb1⟩
      have B1 := Lib.hid (bel_trans B.out hb1)
      clear hb1
      cases hX : overlapB t i0 (f k).l (f k).slot with
      | true =>
        have hany : anyHit t i0 f len = true := by
          have key : ∀ d, anyHit t i0 f (k + 1 + d) = true := by
            intro d
            induction d with
            | zero => show (anyHit t i0 f k || overlapB t i0 (f k).l (f k).slot) = true; rw [hX, Bool.or_true]
            | succ d ih => show (anyHit t i0 f (k + 1 + d) || _) = true; rw [ih, Bool.true_or]
          have := key (len - (k + 1))
          rwa [show k + 1 + (len - (k + 1)) = len from by omega] at this
        have HA := Lib.hid hany
        clear hany
        go_wp2_with fail
        go_ret
        exact ⟨(k : Int), rfl, by rw [HA.out]; simp, B1.out⟩
      | false =>
        have hn1 : anyHit t i0 f (k + 1) = false := by
          show (anyHit t i0 f k || overlapB t i0 (f k).l (f k).slot) = false
          rw [hX, HN.out]; rfl
        have HN1 := Lib.hid hn1
        clear hn1 hX
        go_wp2_with fail
        go_roundw
        case rel => exact ⟨k + 1, by omega, by go_num, HN1.out, B1.out⟩
        case measure => simp [intOf]; omega
    · obtain rfl : k = len := by omega
      go_wp2_with fail
      go_ret
      exact ⟨-1, rfl, by rw [HN.out]; rfl, B.out⟩
end Go.Proofs.Ytkafffoaaklhiaa
