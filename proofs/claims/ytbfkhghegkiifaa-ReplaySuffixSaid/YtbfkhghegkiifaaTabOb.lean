/-
  The table as an object: its calls.
-/
import Derived.Test.YtbfkhghegkiifaaTabDel
namespace Go.Proofs.Ytbfkhghegkiifaa
open Go.RowKit
set_option linter.unusedVariables false
/-- the table lies in memory newer than w0, of which nothing has changed -/
def Tob (w0 w : World) (tb : Nat) (T : Tab) : Prop := ∃ vn vo, Tb w tb vn vo T ∧ TI T ∧ (∀ j, tfoot tb vn vo j → w0.heap.size ≤ j) ∧ Below w0.heap.size w0 w
theorem Tob.ti {w0 w : World} {tb : Nat} {T : Tab} (h : Tob w0 w tb T) : TI T := by obtain ⟨_, _, _, h, _⟩ := h; exact h
theorem Tob.bel {w0 w : World} {tb : Nat} {T : Tab} (h : Tob w0 w tb T) : Below w0.heap.size w0 w := by obtain ⟨_, _, _, _, _, h⟩ := h; exact h
theorem Tob.below {w0 w w' : World} {tb : Nat} {T : Tab} (h : Tob w0 w tb T) (hb : Below w.heap.size w w') : Tob w0 w' tb T := by
  obtain ⟨vn, vo, h1, h2, h3, h4⟩ := h
  exact ⟨vn, vo, h1.below hb, h2, h3, bel_trans h4 hb⟩
theorem Tob.step {w0 w w' : World} {tb : Nat} {vn vo vn' vo' : Value} {T' : Tab} (h3 : ∀ j, tfoot tb vn vo j → w0.heap.size ≤ j) (h4 : Below w0.heap.size w0 w) (st : St w w' tb vn vo vn' vo') (k : Tb w' tb vn' vo' T') (ti : TI T') : Tob w0 w' tb T' := by
  refine ⟨vn', vo', k, ti, fun j hj => ?_, Fr.below h4 st.fr h4.size h3⟩
  have := h4.size
  rcases st.own j hj with h | h
  · exact h3 j h
  · omega
theorem set_ob (tb : Nat) (T : Tab) (k : ByteArray) (e : Ent) (w0 w : World) (h : Tob w0 w tb T) (hk : k.size ≤ 9223372036854775807) (hs : T.tot ≤ 1000000) :
    Calls Try.prog 14 #[.pointer (some ⟨tb, 0, none⟩), .string k, entV e] w fun e' w' => e' = .returned (.tuple #[]) ∧ ∃ T', Tob w0 w' tb T' ∧ SetI T T' k e := by
  obtain ⟨vn, vo, h1, h2, h3, h4⟩ := h
  refine (set9 tb vn vo T k e w h1 h2 hk hs).mono ?_
  rintro e' w' ⟨rfl, vn', vo', T', t, st, si⟩
  exact ⟨rfl, T', .step h3 h4 st t si.ti, si⟩
theorem del_ob (tb : Nat) (T : Tab) (k : ByteArray) (w0 w : World) (h : Tob w0 w tb T) (hk : k.size ≤ 9223372036854775807) :
    Calls Try.prog 15 #[.pointer (some ⟨tb, 0, none⟩), .string k] w fun e' w' => ∃ b T', e' = .returned (.bool b) ∧ Tob w0 w' tb T' ∧ DelI T T' k b := by
  obtain ⟨vn, vo, h1, h2, h3, h4⟩ := h
  refine (del13 tb vn vo T k w h1 h2 hk).mono ?_
  rintro e' w' ⟨b, vo', T', rfl, t, st, si⟩
  exact ⟨b, T', rfl, .step h3 h4 st t si.ti, si⟩
theorem len_ob (tb : Nat) (T : Tab) (w0 w : World) (h : Tob w0 w tb T) :
    Calls Try.prog 33 #[.pointer (some ⟨tb, 0, none⟩)] w fun e' w' => e' = .returned (.int .i64 (T.tot : Int)) ∧ ∃ m, w' = w.drewN m := by
  obtain ⟨vn, vo, h1, h2, h3, h4⟩ := h
  exact len15 tb vn vo T w h1 h2.len_le
theorem new_ob (w : World) : Calls Try.prog 13 #[] w fun e w' => ∃ tb T, e = .returned (.pointer (some ⟨tb, 0, none⟩)) ∧ Tob w w' tb T ∧ T.tot = 0 ∧ ∀ k e, ¬ Has T k e := by
  refine (new8 w).mono ?_
  rintro e w' ⟨tb, vn, T, rfl, t, ti, _, h1, h2, _, h4, h5, h6⟩
  exact ⟨tb, T, rfl, ⟨vn, _, t, ti, h6, ⟨h5.os, h5.tape, h5.output, h5.size, fun k hk => h5.block k hk (fun f => f)⟩⟩, by unfold Tab.tot; omega, h4⟩
end Go.Proofs.Ytbfkhghegkiifaa
