/-
  The contract of geometry.Free.
-/
import Derived.Test.YtkafffoaaklhiaaFree
namespace Go.Proofs.Ytkafffoaaklhiaa
open Go.RowKit
theorem own_below {w w' : World} {base : Nat} {e : TypeId} {size : Nat} {v : Value} {n : Nat} {xs : List Value} (h : w.ownsRow base e size v n xs) (hb : Below w.heap.size w w') : w'.ownsRow base e size v n xs := by
  refine ⟨h.1, ?_⟩
  rcases h.2 with h2 | ⟨g, cap, cur, hv, hg, hh, r⟩
  · exact .inl h2
  · refine .inr ⟨g, cap, cur, hv, hg, ?_, r⟩
    rw [hb.block g (Array.getElem?_eq_some_iff.1 hh).1]; exact hh
set_option maxHeartbeats 1000000 in
theorem contains21 (a : Option Addr) (len cap : Nat) (f : Nat → Reg) (t : Lay) (tb ib : Nat) (i0 : Int) (w : World) (hl : len ≤ 9223372036854775807) (hr : RegsAt w a len f)
    (t0 : w.cell? ⟨tb, 0, none⟩ = some (.int .i64 t.id)) (t1 : w.cell? ⟨tb, 1, none⟩ = some (.int .i64 t.ver)) (t2 : w.cell? ⟨tb, 2, none⟩ = some (.int .i64 t.rs)) (t3 : w.cell? ⟨tb, 3, none⟩ = some (.int .i64 t.rg))
    (hi : w.cell? ⟨ib, 0, none⟩ = some (.int .i64 i0)) :
    Calls Try.prog 40 #[.slice a len cap, .func (.func 41) #[] #[.pointer (some ⟨tb, 0, none⟩), .pointer (some ⟨ib, 0, none⟩)]] w
      fun e w' => e = .returned (.bool (anyHit t i0 f len)) ∧ Below w.heap.size w w' := by
  have H := Lib.hid (index23 a len cap f t tb ib i0 w hl hr t0 t1 t2 t3 hi)
  clear hr t0 t1 t2 t3 hi
  go_enter Try.func40, Try.ntmps40
  go_wp2_with fail
  with_reducible refine H.out.mono ?_
  rintro e w1 ⟨n, rfl, hn, hb⟩
  have HN := Lib.hid hn
  clear hn
  go_wp2_with fail
  all_goals
    go_ret
    exact ⟨ret_bool HN.out, hb⟩
/-- the slots below k that meet no region -/
def freeL (t : Lay) (f : Nat → Reg) (len : Nat) : Nat → List Int
  | 0 => []
  | k + 1 => if anyHit t (k : Int) f len = true then freeL t f len k else freeL t f len k ++ [(k : Int)]
theorem freeL_len (t : Lay) (f : Nat → Reg) (len k : Nat) : (freeL t f len k).length ≤ k := by
  induction k with
  | zero => simp [freeL]
  | succ k ih => unfold freeL; split <;> (try rw [List.length_append, List.length_singleton]) <;> omega
def freeD (t : Lay) (f : Nat → Reg) (len : Nat) : List Int := if formB t = true then freeL t f len t.rg.toNat else []
set_option maxHeartbeats 1000000 in
theorem free17_no (id ver rs rg : Int) (a : Option Addr) (len cap : Nat) (w : World) (h : formB ⟨id, ver, rs, rg⟩ = false) :
    Calls Try.prog 24 #[.agg #[.int .i64 id, .int .i64 ver, .int .i64 rs, .int .i64 rg], .slice a len cap] w (RetInts w []) := by
  have c1 := fun W => form20 id ver rs rg W
  rw [h] at c1
  have C1 := Lib.hid c1
  clear c1 h
  go_enter Try.func24, Try.ntmps24
  go_wp2_with fail
  with_reducible refine (C1.out _).mono ?_
  rintro e w1 ⟨rfl, hb⟩
  go_wp2_with fail
  go_ret
  exact ⟨_, rfl, World.ownsRow_nil _ _ _ _, bel1 hb⟩
set_option maxHeartbeats 2000000 in
theorem free17_yes (id ver rs : Int) (rg : Nat) (a : Option Addr) (len cap : Nat) (f : Nat → Reg) (w : World) (h : formB ⟨id, ver, rs, (rg : Int)⟩ = true) (hl : len ≤ 9223372036854775807) (hr : RegsAt w a len f) :
    Calls Try.prog 24 #[.agg #[.int .i64 id, .int .i64 ver, .int .i64 rs, .int .i64 (rg : Int)], .slice a len cap] w (RetInts w (freeL ⟨id, ver, rs, (rg : Int)⟩ f len rg)) := by
  have c1 := fun W => form20 id ver rs rg W
  obtain ⟨_, _, _, _, g1, g2⟩ := formB_rng h
  simp only at g1 g2
  rw [h] at c1
  have C1 := Lib.hid c1
  have HR := Lib.hid hr
  obtain ⟨i0, hi, hz0, hz1, hz2⟩ := info_parts intinfo
  have I1 := Lib.hid hi; have I2 := Lib.hid hz0; have I3 := Lib.hid hz1; have I4 := Lib.hid hz2
  clear c1 h hr hi hz0 hz1 hz2
  go_enter Try.func24, Try.ntmps24
  go_wp2_with fail
  with_reducible refine (C1.out _).mono ?_
  rintro e w1 ⟨rfl, hb⟩
  obtain ⟨hc, _⟩ := bcell hb
  go_wp2_with fail
  clear hc
  have hsz := hb.size
  simp at hsz
  have B0 := Lib.hid hb
  have L0 := Lib.hid (show Below w.heap.size w w1 from bel1 hb)
  clear hb
  go_loopw [5, 6, 12] (fun v _ j wr => ∃ k : Nat, k ≤ rg ∧ j = .int .i64 k ∧ (∃ n, wr.ownsRow (w.heap.size + 1) 3 1 v n ((freeL ⟨id, ver, rs, (rg : Int)⟩ f len k).map (Value.int .i64))) ∧ Below (w.heap.size + 1) w1 wr) (fun _ _ j _ => rg - (intOf j).toNat)
  case atStart => exact ⟨0, Nat.zero_le _, rfl, ⟨0, World.ownsRow_nil _ _ _ _⟩, Below.refl _ _⟩
  case round =>
    obtain ⟨k, hk, rfl, ⟨n, hown⟩, hbr⟩ := hrel
    have hz := hbr.size
    have O := Lib.hid hown
    have B := Lib.hid hbr
    clear hown hbr
    by_cases hlt : k < rg
    · have hT := ((B0.out.mono (B' := w.heap.size + 1) (by simp)).trans B.out).alloc (by omega) (.cells #[.int .i64 (k : Int)] 3)
      have hW := (L0.out.trans (B.out.mono (by omega))).alloc (by omega) (.cells #[.int .i64 (k : Int)] 3)
      have HC := Lib.hid (contains21 a len cap f ⟨id, ver, rs, (rg : Int)⟩ w.heap.size wr.heap.size (k : Int) _ hl (HR.out.below hW (Nat.le_refl _)) (by rw [hT.cell (by simp)]; simp [go_sem]) (by rw [hT.cell (by simp)]; simp [go_sem]) (by rw [hT.cell (by simp)]; simp [go_sem]) (by rw [hT.cell (by simp)]; simp [go_sem]) (by simp [go_sem]))
      have HW := Lib.hid hW
      clear hT hW
      have hstep : freeL ⟨id, ver, rs, (rg : Int)⟩ f len (k + 1) = if anyHit ⟨id, ver, rs, (rg : Int)⟩ (k : Int) f len = true then freeL ⟨id, ver, rs, (rg : Int)⟩ f len k else freeL ⟨id, ver, rs, (rg : Int)⟩ f len k ++ [(k : Int)] := rfl
      have hln := freeL_len ⟨id, ver, rs, (rg : Int)⟩ f len k
      have hnn : (freeL ⟨id, ver, rs, (rg : Int)⟩ f len k).length = n := by have := O.out.1; simpa using this
      obtain ⟨l1, hl1⟩ : ∃ l1, freeL ⟨id, ver, rs, (rg : Int)⟩ f len (k + 1) = l1 := ⟨_, rfl⟩
      rw [hl1] at hstep
      have HL1 := Lib.hid hl1
      clear hl1
      generalize freeL ⟨id, ver, rs, (rg : Int)⟩ f len k = l0 at *
      generalize anyHit ⟨id, ver, rs, (rg : Int)⟩ (k : Int) f len = X at *
      have hnk : n ≤ k := by omega
      have HS := Lib.hid hstep
      clear hstep hln hnn
      go_wp2_with fail
      with_reducible refine HC.out.mono ?_
      rintro e w2 ⟨rfl, hb2⟩
      have hv : w2.cell? ⟨wr.heap.size, 0, none⟩ = some (.int .i64 (k : Int)) := by rw [hb2.cell (by simp)]; simp [go_sem]
      have hz2 := hb2.size
      simp at hz2
      have O2 := Lib.hid (own_below (O.out.alloc (.cells #[.int .i64 (k : Int)] 3)) hb2)
      have B2 := Lib.hid ((B.out.alloc (by omega) (.cells #[.int .i64 (k : Int)] 3)).trans (hb2.mono (by simp; omega)))
      clear hb2 O B HC HW
      cases X with
      | true =>
        have e1 : l1 = l0 := HS.out
        have HS1 := Lib.hid e1
        clear e1 HS
        go_wp2_with fail
        go_roundw
        case rel => exact ⟨k + 1, by omega, by go_num, ⟨n, by rw [HL1.out, HS1.out]; exact O2.out⟩, B2.out⟩
        case measure => simp [intOf]; omega
      | false =>
        have e1 : l1 = l0 ++ [(k : Int)] := HS.out
        have HS1 := Lib.hid e1
        clear e1 HS
        go_wp2_with (at_builtin; refine Stop.out ?_)
        refine Stop.of (wpList_app rfl _ _ 30 rfl (w.heap.size + 1) 3 i0 (.int .i64 0) 1 8 Try.underlying30 I1.out I2.out I3.out I4.out rfl (by decide) _ n _ rfl (O2.out.alloc _) (.slice (some ⟨w2.heap.size, 0, none⟩) 1 1) 1 [.int .i64 (k : Int)] rfl (src_lit #[.int .i64 (k : Int)] (0, 0) (heap_alloc_new w2 _) rfl) (ints_one .i64 [(k : Int)]) (by unfold maxLen; omega) (by omega) (by simp; omega) ?_)
        intro v3 w3 hown3 hg3
        rw [show l0.map (Value.int .i64) ++ [Value.int .i64 (k : Int)] = l1.map (Value.int .i64) from by rw [HS1.out]; simp] at hown3
        have B3 := Lib.hid ((B2.out.alloc (by omega) _).grown hg3 (by simp; omega) (fun j hj => (O2.out.lt j hj).1))
        have O3 := Lib.hid hown3
        clear hown3 hg3 B2 O2 hv
        go_wp2_with fail
        go_roundw
        case rel => exact ⟨k + 1, by omega, by go_num, ⟨n + 1, by rw [HL1.out]; exact O3.out⟩, B3.out⟩
        case measure => simp [intOf]; omega
    · obtain rfl : k = rg := by omega
      go_wp2_with fail
      go_ret
      refine ⟨_, rfl, ?_, L0.out.trans (B.out.mono (by omega))⟩
      have := Joins.ownsRow_le O.out (Nat.le_succ w.heap.size)
      have hn : n = (freeL ⟨id, ver, rs, (k : Int)⟩ f len k).length := by have := O.out.1; simp at this; omega
      rw [← hn]; exact this
theorem free17 (t : Lay) (a : Option Addr) (len cap : Nat) (f : Nat → Reg) (w : World) (hl : len ≤ 9223372036854775807) (hr : RegsAt w a len f) :
    Calls Try.prog 24 #[.agg #[.int .i64 t.id, .int .i64 t.ver, .int .i64 t.rs, .int .i64 t.rg], .slice a len cap] w (RetInts w (freeD t f len)) := by
  obtain ⟨id, ver, rs, rg⟩ := t
  cases h : formB ⟨id, ver, rs, rg⟩ with
  | false =>
    have e : freeD ⟨id, ver, rs, rg⟩ f len = [] := by unfold freeD; rw [h]; rfl
    rw [e]; exact free17_no id ver rs rg a len cap w h
  | true =>
    have e : freeD ⟨id, ver, rs, rg⟩ f len = freeL ⟨id, ver, rs, rg⟩ f len rg.toNat := by unfold freeD; rw [if_pos h]
    rw [e]
    obtain ⟨_, _, _, _, g1, _⟩ := formB_rng h
    simp only at g1
    obtain ⟨g, rfl⟩ := Int.eq_ofNat_of_zero_le (show 0 ≤ rg by omega)
    exact free17_yes id ver rs g a len cap f w h hl hr
end Go.Proofs.Ytkafffoaaklhiaa
