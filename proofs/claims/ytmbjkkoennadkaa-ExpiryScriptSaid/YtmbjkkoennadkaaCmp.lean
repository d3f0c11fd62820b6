/-
  The contracts of cmp.Compare at int and string, of cmp.Or at int.
-/
import Derived.Test.YtmbjkkoennadkaaMem
import Derived.WalkLawsBesides
namespace Go.Proofs.Ytmbjkkoennadkaa
open Go.RowKit
def cmpI (a b : Int) : Int := if a < b then -1 else if b < a then 1 else 0
def ltS (a b : ByteArray) : Bool := Op.bytesLess a.toList b.toList
def cmpS (a b : ByteArray) : Int := if ltS a b = true then -1 else if a.toList = b.toList then 0 else 1
theorem ret_int' {k : IntKind} {a b : Int} (h : a = b) : Ending.returned (.int k a) = .returned (.int k b) := by rw [h]
set_option maxHeartbeats 400000 in
theorem cmpint (a b : Int) (w : World) : Calls Try.prog 23 #[.int .i64 a, .int .i64 b] w fun e w' => e = .returned (.int .i64 (cmpI a b)) ∧ w = w' := by
  go_enter Try.func23, Try.ntmps23
  go_wp2
  all_goals
    go_ret
    refine ⟨ret_int' ?_, rfl⟩
    unfold cmpI
    repeat' split
    all_goals omega
set_option maxHeartbeats 400000 in
theorem cmpstr (a b : ByteArray) (w : World) : Calls Try.prog 24 #[.string a, .string b] w fun e w' => e = .returned (.int .i64 (cmpS a b)) ∧ w = w' := by
  have h1 : ∀ x, cmpS a b = x → cmpS a b = x := fun _ h => h
  cases hb : Op.bytesLess a.toList b.toList with
  | true =>
    have e : cmpS a b = -1 := by unfold cmpS ltS; rw [if_pos hb]
    have E := Lib.hid e
    clear e h1
    go_enter Try.func24, Try.ntmps24
    go_wp2
    go_ret
    exact ⟨ret_int' E.out.symm, rfl⟩
  | false =>
    by_cases he : a.toList = b.toList
    · have d : (!a.toList == b.toList) = false := by rw [he]; simp
      have e : cmpS a b = 0 := by unfold cmpS ltS; rw [if_neg (by rw [hb]; simp), if_pos he]
      have E := Lib.hid e
      clear e h1 he
      go_enter Try.func24, Try.ntmps24
      go_wp2
      go_ret
      exact ⟨ret_int' E.out.symm, rfl⟩
    · have d : (!a.toList == b.toList) = true := by simp [he]
      have e : cmpS a b = 1 := by unfold cmpS ltS; rw [if_neg (by rw [hb]; simp), if_neg he]
      have E := Lib.hid e
      clear e h1 he
      go_enter Try.func24, Try.ntmps24
      go_wp2
      go_ret
      exact ⟨ret_int' E.out.symm, rfl⟩
def orD (x y : Int) : Int := if x = 0 then y else x
set_option maxHeartbeats 400000 in
theorem orint (a : Option Addr) (cap : Nat) (x y : Int) (w : World) (he : Elems .i64 w a 2 [x, y]) : Calls Try.prog 22 #[.slice a 2 cap] w fun e w' => e = .returned (.int .i64 (orD x y)) ∧ w = w' := by
  obtain ⟨b, o, rfl, _, h0⟩ := he 0 (by omega)
  obtain ⟨b', o', ha, _, h1⟩ := he 1 (by omega)
  simp only [Option.some.injEq, Addr.mk.injEq, and_true] at ha
  obtain ⟨rfl, rfl⟩ := ha
  clear he
  simp only [List.getElem?_cons_zero, List.getElem?_cons_succ, Option.getD_some, Nat.add_zero] at h0 h1
  go_enter Try.func22, Try.ntmps22
  go_wp2
  go_loop [5, 8] (fun _ i => (i = .int .i64 0) ∨ (i = .int .i64 1 ∧ x = 0) ∨ (i = .int .i64 2 ∧ x = 0 ∧ y = 0)) (fun _ i => 2 - (intOf i).toNat)
  case atStart => exact .inl rfl
  case round =>
    have H1 := Lib.hid h1
    have H0 := Lib.hid h0
    clear h0 h1
    rcases hrel with rfl | ⟨rfl, hx⟩ | ⟨rfl, hx, hy⟩
    · have h0 := H0.out
      by_cases hx : x = 0
      · subst hx
        go_wp2
        go_round
        case rel => simp
        case measure => simp [intOf]
      · have hx' : (!x == 0) = true := by simp [hx]
        go_wp2
        all_goals
          go_ret
          exact ⟨ret_int' (by unfold orD; rw [if_neg hx]), rfl⟩
    · have h1 := H1.out
      subst hx
      by_cases hy : y = 0
      · subst hy
        go_wp2
        go_round
        case rel => simp
        case measure => simp [intOf]
      · go_wp2
        all_goals
          go_ret
          exact ⟨ret_int' (by simp [orD]), rfl⟩
    · subst hx hy
      go_wp2
      go_ret
      exact ⟨ret_int' (by simp [orD]), rfl⟩
end Go.Proofs.Ytmbjkkoennadkaa
