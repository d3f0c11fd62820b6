/-
  What the laws on replay share.
-/
import Derived.Test.YtbfkhghegkiifaaRpRead
import Derived.Test.YtbfkhghegkiifaaRpAwake
import Derived.Test.YtbfkhghegkiifaaEqT
namespace Go.Proofs.Ytbfkhghegkiifaa
open Go.RowKit Go.WideShapes Go.ChangeShapes
set_option linter.unusedVariables false
theorem own_valsQ {w : World} {base : Nat} {v : Value} {q : List Pr} (h : w.ownsRow base 38 6 v q.length (pairsC q)) : ∃ a cap, v = .slice a q.length cap ∧ Vals w a (pairsC q) := by
  obtain ⟨a, cap, h1, h2, _⟩ := ownsRow_vals h
  exact ⟨a, cap, h1, h2⟩
/-- a filter, one pair more -/
theorem filt_yes {P : Pr → Bool} {qs : List Pr} {k : Nat} {x : Pr} (h : qs.take (k + 1) = qs.take k ++ [x]) (hp : P x = true) : (qs.take (k + 1)).filter P = (qs.take k).filter P ++ [x] := by
  rw [h, List.filter_append, List.filter_cons, if_pos hp]; rfl
theorem filt_no {P : Pr → Bool} {qs : List Pr} {k : Nat} {x : Pr} (h : qs.take (k + 1) = qs.take k ++ [x]) (hp : P x = false) : (qs.take (k + 1)).filter P = (qs.take k).filter P := by
  rw [h, List.filter_append, List.filter_cons, if_neg (by rw [hp]; decide)]; simp
theorem filt_len (P : Pr → Bool) (qs : List Pr) (k : Nat) : ((qs.take k).filter P).length ≤ k := by
  refine Nat.le_trans (List.length_filter_le _ _) ?_
  rw [List.length_take]; omega
end Go.Proofs.Ytbfkhghegkiifaa
