/-
  The contracts of slots.Choose and slots.Spare.
-/
import Derived.Test.YtkafffoaaklhiaaSlOrder
namespace Go.Proofs.Ytkafffoaaklhiaa
open Go.RowKit
set_option linter.unusedVariables false
def reg0 : Reg := ⟨0, 0, 0, 0, 0, 0, ⟨0, 0, 0, 0⟩⟩
theorem Vals.regs {w : World} {a : Option Addr} {l : List Reg} (h : Vals w a (regC l)) : RegsAt w a l.length (fun i => l[i]?.getD reg0) := by
  intro i hi
  have hp : l[i]? = some l[i] := List.getElem?_eq_getElem hi
  obtain ⟨b, off, ha, hb, _⟩ := h (i * 10) (by rw [regC_len]; omega)
  refine ⟨b, off, ha, hb, fun j hj => ?_⟩
  obtain ⟨b', off', ha', _, hc⟩ := h (i * 10 + j) (by rw [regC_len]; omega)
  rw [ha] at ha'
  cases ha'
  rw [hc, regC_at l i l[i] hp j hj]
  show _ = (l[i]?.getD reg0).cells[j]?
  rw [hp]
  rfl
/-- the free slots -/
def freeQ (t : Lay) (l : List Reg) : List Int := freeD t (fun i => l[i]?.getD reg0) l.length
def chS (t : Lay) (l : List Reg) : Int := match freeQ t l with
  | [] => -1
  | x :: _ => x
def chB (t : Lay) (l : List Reg) : Bool := match freeQ t l with
  | [] => false
  | _ :: _ => true
theorem freeL_rng (t : Lay) (f : Nat → Reg) (len k : Nat) : ∀ x ∈ freeL t f len k, 0 ≤ x ∧ x < k := by
  induction k with
  | zero => intro x hx; simp [freeL] at hx
  | succ k ih =>
    intro x hx
    unfold freeL at hx
    split at hx
    · have := ih x hx; omega
    · rcases List.mem_append.1 hx with h | h
      · have := ih x h; omega
      · simp at h; omega
theorem freeQ_len (t : Lay) (l : List Reg) : (freeQ t l).length ≤ 16 := by
  unfold freeQ freeD
  split
  · rename_i h
    have := formB_rng h
    have h2 := freeL_len t (fun i => l[i]?.getD reg0) l.length t.rg.toNat
    omega
  · simp
set_option maxHeartbeats 1000000 in
theorem choose8 (t : Lay) (a : Option Addr) (n cap : Nat) (l : List Reg) (w : World) (hl : l.length = n) (hn : n < 1000) (hv : Vals w a (regC l)) :
    Calls Try.prog 8 #[.agg #[.int .i64 t.id, .int .i64 t.ver, .int .i64 t.rs, .int .i64 t.rg], .slice a n cap] w fun e w' => e = .returned (.tuple #[.int .i64 (chS t l), .bool (chB t l)]) ∧ Below w.heap.size w w' := by
  have hr := hv.regs
  have FR := Lib.hid (free17 t a n cap (fun i => l[i]?.getD reg0) (w.alloc (.cells #[.int .i64 t.id, .int .i64 t.ver, .int .i64 t.rs, .int .i64 t.rg] 23)) (by omega) (by rw [← hl]; exact hr.below ((Below.refl _ _).alloc (Nat.le_refl _) _) (Nat.le_refl _)))
  have hq := freeQ_len t l
  have FQ := Lib.hid (show freeD t (fun i => l[i]?.getD reg0) n = freeQ t l from by rw [← hl]; rfl)
  unfold chS chB
  obtain ⟨q, hqe⟩ : ∃ q, freeQ t l = q := ⟨_, rfl⟩
  rw [FQ.out, hqe] at FR
  rw [hqe] at hq ⊢
  clear hr hv FQ hqe
  go_enter Try.func8, Try.ntmps8
  go_wp2_with fail
  with_reducible refine FR.out.mono ?_
  rintro e w1 hret
  obtain ⟨v, rfl, hown, hb⟩ := hret
  have B1 := Lib.hid (show Below w.heap.size w w1 from bel1 hb)
  obtain ⟨a1, cap1, rfl, hel, _, _⟩ := ownsRow_elems hown
  cases q with
  | nil =>
    clear hown hb hel
    go_wp2_with fail
    go_ret2
    exact ⟨rfl, B1.out⟩
  | cons x q =>
    obtain ⟨b, off, rfl, hb2, hc⟩ := hel 0 (by simp)
    simp only [Nat.add_zero, List.getElem?_cons_zero, Option.getD_some] at hc
    have hq1 : ((x :: q).length : Int) ≤ 16 := by omega
    have hq0 : (((x :: q).length : Int) == 0) = false := by simp; omega
    have hq2 : (0 : Int) < ((x :: q).length : Int) := by simp only [List.length_cons]; omega
    generalize (x :: q).length = m at *
    clear hown hb hel
    go_wp2_with fail
    go_ret2
    exact ⟨rfl, B1.out⟩
set_option maxHeartbeats 1000000 in
theorem splitw (x s : Int) (sb : Nat) (w : World) (hs : w.cell? ⟨sb, 0, none⟩ = some (.int .i64 s)) : Calls Try.prog 27 #[.int .i64 x, .pointer (some ⟨sb, 0, none⟩)] w fun e w' => e = .returned (.bool (x != s)) ∧ w = w' := by
  go_enter Try.func27, Try.ntmps27
  go_wp2_with fail
  go_ret
  exact ⟨rfl, rfl⟩
set_option maxHeartbeats 1000000 in
theorem index43 (a : Option Addr) (n cap : Nat) (q : List Int) (s : Int) (sb : Nat) (w : World) (hl : q.length = n) (hn : n ≤ 1000) (he : Elems .i64 w a n q) (hs : w.cell? ⟨sb, 0, none⟩ = some (.int .i64 s)) :
    Calls Try.prog 43 #[.slice a n cap, .func (.func 27) #[] #[.pointer (some ⟨sb, 0, none⟩)]] w fun e w' => (∃ m : Int, e = .returned (.int .i64 m) ∧ decide (0 ≤ m) = q.any (fun x => x != s)) ∧ w = w' := by
  have HE := Lib.hid he
  have HL := Lib.hid hl
  clear he hl
  go_enter Try.func43, Try.ntmps43
  go_wp2_with fail
  go_loopg [5, 8] n (fun gk _ iv wr => ∃ i : Nat, iv = .int .i64 i ∧ i ≤ n ∧ gk = n - i ∧ w = wr ∧ Hid ((q.take i).any (fun x => x != s) = false))
  case atStart => exact ⟨0, rfl, Nat.zero_le _, rfl, rfl, Lib.hid (by simp)⟩
  case round =>
    obtain ⟨i, rfl, hi, hgk, rfl, hno⟩ := hrel
    have GK := Lib.hid hgk
    clear hgk
    by_cases hlt : i < n
    · obtain ⟨b, off, rfl, hb, hc⟩ := HE.out i hlt
      have hqi : q[i]? = some (q[i]?.getD 0) := by rw [List.getElem?_eq_getElem (by rw [HL.out]; exact hlt)]; rfl
      obtain ⟨x, hx⟩ : ∃ x, q[i]?.getD 0 = x := ⟨_, rfl⟩
      rw [hx] at hc hqi
      have HX := Lib.hid hqi
      have hiI : (i : Int) < n := by omega
      clear hx hqi
      go_wp2_with fail
      with_reducible refine (splitw x s sb w hs).mono ?_
      rintro e w1 ⟨rfl, rfl⟩
      cases hxs : (x != s) with
      | true =>
        have F := Lib.hid (show q.any (fun x => x != s) = true from List.any_eq_true.2 ⟨x, List.mem_of_getElem? HX.out, hxs⟩)
        clear hxs
        go_wp2_with fail
        go_ret
        exact ⟨⟨(i : Int), rfl, by rw [F.out]; simp⟩, rfl⟩
      | false =>
        have F := Lib.hid (show (q.take (i + 1)).any (fun x => x != s) = false from by
          rw [List.take_add_one, HX.out, List.any_append, hno.out]; simp [hxs])
        clear hxs
        go_wp2_with fail
        go_roundg (n - (i + 1))
        case measure => have := GK.out; omega
        case rel => exact ⟨i + 1, by go_num, by omega, rfl, rfl, F⟩
    · have F := Lib.hid (show q.any (fun x => x != s) = false from by
        have := hno.out
        rw [List.take_of_length_le (by rw [HL.out]; omega)] at this; exact this)
      go_wp2_with fail
      go_ret
      exact ⟨⟨-1, rfl, by rw [F.out]; rfl⟩, rfl⟩
set_option maxHeartbeats 1000000 in
theorem contains26 (a : Option Addr) (n cap : Nat) (q : List Int) (s : Int) (sb : Nat) (w : World) (hl : q.length = n) (hn : n ≤ 1000) (he : Elems .i64 w a n q) (hs : w.cell? ⟨sb, 0, none⟩ = some (.int .i64 s)) :
    Calls Try.prog 26 #[.slice a n cap, .func (.func 27) #[] #[.pointer (some ⟨sb, 0, none⟩)]] w fun e w' => e = .returned (.bool (q.any (fun x => x != s))) ∧ w = w' := by
  have H := Lib.hid (index43 a n cap q s sb w hl hn he hs)
  clear he hs hl
  go_enter Try.func26, Try.ntmps26
  go_wp2_with fail
  with_reducible refine H.out.mono ?_
  rintro e w1 ⟨⟨m, rfl, hm⟩, rfl⟩
  have HM := Lib.hid hm
  clear hm
  go_wp2_with fail
  all_goals
    go_ret
    exact ⟨ret_bool HM.out, rfl⟩
def spB (t : Lay) (l : List Reg) (s : Int) : Bool := (freeQ t l).any (fun x => x != s)
set_option maxHeartbeats 1000000 in
theorem spare11 (t : Lay) (a : Option Addr) (n cap : Nat) (l : List Reg) (s : Int) (w : World) (hl : l.length = n) (hn : n < 1000) (hv : Vals w a (regC l)) :
    Calls Try.prog 11 #[.agg #[.int .i64 t.id, .int .i64 t.ver, .int .i64 t.rs, .int .i64 t.rg], .slice a n cap, .int .i64 s] w fun e w' => e = .returned (.bool (spB t l s)) ∧ Below w.heap.size w w' := by
  have hr := hv.regs
  have FR := Lib.hid (free17 t a n cap (fun i => l[i]?.getD reg0) ((w.alloc (.cells #[.int .i64 t.id, .int .i64 t.ver, .int .i64 t.rs, .int .i64 t.rg] 23)).alloc (.cells #[.int .i64 s] 3)) (by omega) (by rw [← hl]; exact hr.below (((Below.refl _ _).alloc (Nat.le_refl _) _).alloc (by simp) _) (Nat.le_refl _)))
  have hq := freeQ_len t l
  have FQ := Lib.hid (show freeD t (fun i => l[i]?.getD reg0) n = freeQ t l from by rw [← hl]; rfl)
  unfold spB
  obtain ⟨q, hqe⟩ : ∃ q, freeQ t l = q := ⟨_, rfl⟩
  rw [FQ.out, hqe] at FR
  rw [hqe] at hq ⊢
  clear hr hv FQ hqe
  go_enter Try.func11, Try.ntmps11
  go_wp2_with fail
  with_reducible refine FR.out.mono ?_
  rintro e w1 hret
  obtain ⟨v, rfl, hown, hb⟩ := hret
  have B1 := Lib.hid (show Below w.heap.size w w1 from bel2 hb)
  have hs : w1.cell? ⟨w.heap.size + 1, 0, none⟩ = some (.int .i64 s) := by
    rw [hb.cell (p := ⟨w.heap.size + 1, 0, none⟩) (by simp), World.cell?_alloc_at _ _ _ _ (by simp)]; rfl
  obtain ⟨a1, cap1, rfl, hel, _, _⟩ := ownsRow_elems hown
  have CT := Lib.hid (contains26 a1 q.length cap1 q s (w.heap.size + 1) w1 rfl (by omega) hel hs)
  clear hown hb hel hs
  go_wp2_with fail
  with_reducible refine CT.out.mono ?_
  rintro e w2 ⟨rfl, rfl⟩
  go_wp2_with fail
  go_ret
  exact ⟨rfl, B1.out⟩
end Go.Proofs.Ytkafffoaaklhiaa
