/-
  The reference's Eq at two equal lists of pairs.
-/
import Derived.Test.YtbfkhghegkiifaaPairsMem
import Derived.Test.YtbfkhghegkiifaaNeqT
import Derived.Deep.LoopGhost
import Derived.Deep.QuietTactic
namespace Go.Proofs.Ytbfkhghegkiifaa
open Go.RowKit
set_option linter.unusedVariables false
set_option maxRecDepth 100000 in
set_option maxHeartbeats 4000000 in
theorem eq20 (a a' : Option Addr) (c c' n : Nat) (L : List Pr) (w : World) (hn : L.length = n) (hb : n ≤ 1073741824) (hv : Vals w a (pairsC L)) (hv' : Vals w a' (pairsC L)) :
    Calls Try.prog 9 #[.slice a n c, .slice a' n c'] w fun e w' => e = .returned (.bool true) ∧ Below w.heap.size w w' := by
  have HV := Lib.hid hv
  have HV' := Lib.hid hv'
  have HN := Lib.hid hn
  clear hv hv' hn
  go_enter Try.func9, Try.ntmps9
  go_wp2_with fail
  go_loopg [5, 13] n (fun gk _ iv wr => ∃ i : Nat, iv = .int .i64 i ∧ i ≤ n ∧ gk + i = n ∧ Below w.heap.size w wr)
  case atStart => exact ⟨0, rfl, by omega, by omega, Below.refl _ _⟩
  case round =>
    obtain ⟨i, rfl, hi, hgk, hbel⟩ := hrel
    have GK := Lib.hid hgk
    have HB := Lib.hid hbel
    clear hgk hbel
    by_cases hlt : i < n
    · obtain ⟨x, hx⟩ : ∃ x, L[i]? = some x := ⟨_, List.getElem?_eq_getElem (by have := HN.out; omega)⟩
      obtain ⟨g, off, rfl, hg, q0, q1, q2, q3, q4, q5⟩ := (HV.out.below HB.out (Nat.le_refl _)).pair i x hx
      obtain ⟨g', off', rfl, hg', p0, p1, p2, p3, p4, p5⟩ := (HV'.out.below HB.out (Nat.le_refl _)).pair i x hx
      have ne := neqPr x.key x.en
      have hii : (i : Int) < n := by omega
      clear hx
      go_wp2_with fail
      go_quiet (fail)
      have HB2 := Lib.hid (below_drewN HB.out nq)
      go_wp2_with fail
      go_roundg (n - (i + 1))
      case measure => have := GK.out; omega
      case rel => exact ⟨i + 1, by go_num, by omega, by omega, HB2.out⟩
    · obtain rfl : i = n := by omega
      go_wp2_with fail
      go_ret
      exact ⟨rfl, HB.out⟩
end Go.Proofs.Ytbfkhghegkiifaa
