/-
  The reference's Set.
-/
import Derived.Test.YtbfkhghegkiifaaRefTSetA
import Derived.Test.YtbfkhghegkiifaaRefTSetB
import Derived.Test.YtbfkhghegkiifaaRefTSetC
namespace Go.Proofs.Ytbfkhghegkiifaa
open Go.RowKit
set_option linter.unusedVariables false
theorem rset17 (bm : Nat) (R : Nat → Prop) (L : List Pr) (key : ByteArray) (e : Ent) (w : World) (hL : L.length ≤ 1000) (hA : Asc L) (h : RT w bm L R) :
    Calls Try.prog 19 #[.pointer (some ⟨bm, 0, none⟩), .string key, entV e] w fun e' w' => e' = .returned (.tuple #[]) ∧ SetR w w' bm L R key e := by
  by_cases hx : ∃ x ∈ L, x.key = key
  · exact rset_hit bm R L key e w hL hA h hx
  · have hno : ∀ x ∈ L, x.key ≠ key := fun x hm hk => hx ⟨x, hm, hk⟩
    obtain ⟨v, p, hR⟩ := h
    rcases p.form with h0 | h0
    · exact rset_nil bm v R L key e w hL hA p hR hno h0
    · exact rset_some bm v R L key e w hL hA p hR hno h0
end Go.Proofs.Ytbfkhghegkiifaa
