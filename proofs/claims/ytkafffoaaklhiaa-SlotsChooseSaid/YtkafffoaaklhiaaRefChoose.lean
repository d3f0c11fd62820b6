/-
  The contracts of the reference's Choose and Spare.
-/
import Derived.Test.YtkafffoaaklhiaaSlRead
import Derived.Test.YtkafffoaaklhiaaRefFree
namespace Go.Proofs.Ytkafffoaaklhiaa
open Go.RowKit
set_option linter.unusedVariables false
theorem reffreeT (t : Lay) (a : Option Addr) (len cap : Nat) (f : Nat → Reg) (w : World) (hl : len ≤ 9223372036854775807) (hr : RegsAt w a len f) :
    Calls Try.prog 25 #[.agg #[.int .i64 t.id, .int .i64 t.ver, .int .i64 t.rs, .int .i64 t.rg], .slice a len cap] w (RetInts w (freeD t f len)) := by
  have h := reffree18 t.id t.ver t.rs t.rg a len cap f w hl hr
  rw [refL_free] at h
  exact h
set_option maxHeartbeats 1000000 in
theorem refchoose9 (t : Lay) (a : Option Addr) (n cap : Nat) (l : List Reg) (w : World) (hl : l.length = n) (hn : n < 1000) (hv : Vals w a (regC l)) :
    Calls Try.prog 9 #[.agg #[.int .i64 t.id, .int .i64 t.ver, .int .i64 t.rs, .int .i64 t.rg], .slice a n cap] w fun e w' => e = .returned (.tuple #[.int .i64 (chS t l), .bool (chB t l)]) ∧ Below w.heap.size w w' := by
  have hr := hv.regs
  have FR := Lib.hid (reffreeT t a n cap (fun i => l[i]?.getD reg0) (w.alloc (.cells #[.int .i64 t.id, .int .i64 t.ver, .int .i64 t.rs, .int .i64 t.rg] 23)) (by omega) (by rw [← hl]; exact hr.below ((Below.refl _ _).alloc (Nat.le_refl _) _) (Nat.le_refl _)))
  have hq := freeQ_len t l
  have FQ := Lib.hid (show freeD t (fun i => l[i]?.getD reg0) n = freeQ t l from by rw [← hl]; rfl)
  unfold chS chB
  obtain ⟨q, hqe⟩ : ∃ q, freeQ t l = q := ⟨_, rfl⟩
  rw [FQ.out, hqe] at FR
  rw [hqe] at hq ⊢
  clear hr hv FQ hqe
  go_enter Try.func9, Try.ntmps9
  go_wp2_with fail
  with_reducible refine FR.out.mono ?_
  rintro e w1 hret
  obtain ⟨v, rfl, hown, hb⟩ := hret
  have B1 := Lib.hid (show Below w.heap.size w w1 from bel1 hb)
  obtain ⟨a1, cap1, rfl, hel, _, _⟩ := ownsRow_elems hown
  cases q with
  | nil =>
    clear hown hb hel
    go_wp2_with fail
    go_ret2
    exact ⟨rfl, B1.out⟩
  | cons x q =>
    obtain ⟨b, off, rfl, hb2, hc⟩ := hel 0 (by simp)
    simp only [Nat.add_zero, List.getElem?_cons_zero, Option.getD_some] at hc
    have hq1 : ((x :: q).length : Int) ≤ 16 := by omega
    have hq0 : (((x :: q).length : Int) == 0) = false := by simp; omega
    have hq2 : (0 : Int) < ((x :: q).length : Int) := by simp only [List.length_cons]; omega
    generalize (x :: q).length = m at *
    clear hown hb hel
    go_wp2_with fail
    go_ret2
    exact ⟨rfl, B1.out⟩
set_option maxHeartbeats 2000000 in
theorem refspare12 (t : Lay) (a : Option Addr) (n cap : Nat) (l : List Reg) (s : Int) (w : World) (hl : l.length = n) (hn : n < 1000) (hv : Vals w a (regC l)) :
    Calls Try.prog 12 #[.agg #[.int .i64 t.id, .int .i64 t.ver, .int .i64 t.rs, .int .i64 t.rg], .slice a n cap, .int .i64 s] w fun e w' => e = .returned (.bool (spB t l s)) ∧ Below w.heap.size w w' := by
  have hr := hv.regs
  have FR := Lib.hid (reffreeT t a n cap (fun i => l[i]?.getD reg0) (w.alloc (.cells #[.int .i64 t.id, .int .i64 t.ver, .int .i64 t.rs, .int .i64 t.rg] 23)) (by omega) (by rw [← hl]; exact hr.below ((Below.refl _ _).alloc (Nat.le_refl _) _) (Nat.le_refl _)))
  have hq := freeQ_len t l
  have FQ := Lib.hid (show freeD t (fun i => l[i]?.getD reg0) n = freeQ t l from by rw [← hl]; rfl)
  unfold spB
  obtain ⟨q, hqe⟩ : ∃ q, freeQ t l = q := ⟨_, rfl⟩
  rw [FQ.out, hqe] at FR
  rw [hqe] at hq ⊢
  clear hr hv FQ hqe
  go_enter Try.func12, Try.ntmps12
  go_wp2_with fail
  with_reducible refine FR.out.mono ?_
  rintro e w1 hret
  obtain ⟨v, rfl, hown, hb⟩ := hret
  have B1 := Lib.hid (show Below w.heap.size w w1 from bel1 hb)
  obtain ⟨a1, cap1, rfl, hel, _, _⟩ := ownsRow_elems hown
  have HE := Lib.hid hel
  obtain ⟨m, hm⟩ : ∃ m, q.length = m := ⟨_, rfl⟩
  rw [hm] at HE hq ⊢
  have HM := Lib.hid hm
  clear hown hb hel hm
  go_wp2_with fail
  go_loopg [8, 13] m (fun gk _ iv wr => ∃ i : Nat, iv = .int .i64 i ∧ i ≤ m ∧ gk = m - i ∧ w1 = wr ∧ Hid ((q.take i).any (fun x => x != s) = false))
  case atStart => exact ⟨0, rfl, Nat.zero_le _, rfl, rfl, Lib.hid (by simp)⟩
  case round =>
    obtain ⟨i, rfl, hi, hgk, rfl, hno⟩ := hrel
    have GK := Lib.hid hgk
    clear hgk
    by_cases hlt : i < m
    · obtain ⟨b, off, rfl, hb, hc⟩ := HE.out i hlt
      have hqi : q[i]? = some (q[i]?.getD 0) := by rw [List.getElem?_eq_getElem (by rw [HM.out]; exact hlt)]; rfl
      obtain ⟨x, hx⟩ : ∃ x, q[i]?.getD 0 = x := ⟨_, rfl⟩
      rw [hx] at hc hqi
      have HX := Lib.hid hqi
      have hiI : (i : Int) < m := by omega
      clear hx hqi
      cases hxs : (x != s) with
      | true =>
        have F := Lib.hid (show q.any (fun x => x != s) = true from List.any_eq_true.2 ⟨x, List.mem_of_getElem? HX.out, hxs⟩)
        go_wp2_with fail
        go_ret
        exact ⟨ret_bool F.out.symm, B1.out⟩
      | false =>
        have F := Lib.hid (show (q.take (i + 1)).any (fun x => x != s) = false from by
          rw [List.take_add_one, HX.out, List.any_append, hno.out]; simp [hxs])
        go_wp2_with fail
        go_roundg (m - (i + 1))
        case measure => have := GK.out; omega
        case rel => exact ⟨i + 1, by go_num, by omega, rfl, rfl, F⟩
    · have F := Lib.hid (show q.any (fun x => x != s) = false from by
        have := hno.out
        rw [List.take_of_length_le (by rw [HM.out]; omega)] at this; exact this)
      go_wp2_with fail
      go_ret
      exact ⟨ret_bool F.out.symm, B1.out⟩
end Go.Proofs.Ytkafffoaaklhiaa
