/-
  The queue's operations as a caller sees them; on a nil queue; equality of two lists of strings.
-/
import Derived.Test.YtmbjkkoennadkaaDue
import Derived.Test.YtmbjkkoennadkaaPut
import Derived.Test.YtmbjkkoennadkaaVals
namespace Go.Proofs.Ytmbjkkoennadkaa
open Go.RowKit Go.Maps
set_option linter.unusedVariables false
theorem foot_eq {b mb : Nat} {v v' : Value} (h : v'.ownBlock = v.ownBlock) : foot b v' mb = foot b v mb := by unfold foot; rw [h]
theorem qput (b N : Nat) (S : Nat → Prop) (L : List Item) (k : ByteArray) (a : Int) (w : World) (hN : N + 1 ≤ 1000000) (hk : k.size ≤ maxLen) (hwf : (Lit.int .i64 a).wf = true) (h : QOk w b N S L) :
    Calls Try.prog 8 #[.pointer (some ⟨b, 0, none⟩), .string k, .int .i64 a] w fun e w' =>
      e = .returned (.tuple #[]) ∧ ∃ S', QOk w' b (N + 1) S' (putL L k a) ∧ Fr S w w' ∧ ∀ j, S' j → S j ∨ w.heap.size ≤ j := by
  obtain ⟨v, l, mb, m, D, q, rfl⟩ := h
  refine (put8 b N v l mb m D L k a w hN hk hwf q).mono ?_
  rintro e w' ⟨rfl, v', l', m', D', q', hf, hn⟩
  refine ⟨rfl, foot b v' mb, ⟨v', l', mb, m', D', q', rfl⟩, hf, ?_⟩
  rintro j (e | e | e)
  · exact .inl (.inl e)
  · rcases hn j e with h | h
    · exact .inl (.inr (.inl h))
    · exact .inr h
  · exact .inl (.inr (.inr e))
theorem qnext (b N : Nat) (S : Nat → Prop) (L : List Item) (w : World) (hN : N ≤ 1000000) (h : QOk w b N S L) :
    Calls Try.prog 17 #[.pointer (some ⟨b, 0, none⟩)] w fun e w' => e = .returned (.tuple #[.int .i64 (nextA L), .bool (nextB L)]) ∧ QOk w' b N S L ∧ Fr S w w' := by
  obtain ⟨v, l, mb, m, D, q, rfl⟩ := h
  refine (next17 b N v l mb m D L w hN q).mono ?_
  rintro e w' ⟨rfl, v', l', q', hv, _, hf⟩
  refine ⟨rfl, ⟨v', l', mb, m, D, q', (foot_eq hv).symm⟩, hf.mono ?_⟩
  rintro j _ (e | e)
  · exact .inl e
  · exact .inr (.inl e)
theorem qdue (b N : Nat) (S : Nat → Prop) (L : List Item) (now : Int) (w : World) (hN : N ≤ 1000000) (h : QOk w b N S L) :
    Calls Try.prog 9 #[.pointer (some ⟨b, 0, none⟩), .int .i64 now] w fun e w' =>
      ∃ sl, e = .returned sl ∧ w'.ownsRow w.heap.size 9 1 sl (early L now).length (keysV (early L now)) ∧ QOk w' b N S (late L now) ∧ Fr S w w' := by
  obtain ⟨v, l, mb, m, D, q, rfl⟩ := h
  refine (due9 b N v l mb m D L now w hN q).mono ?_
  rintro e w' ⟨v', l', D', sl, rfl, hr, q', hv, hf⟩
  exact ⟨sl, rfl, hr, ⟨v', l', mb, m, D', q', (foot_eq hv).symm⟩, hf⟩
theorem qremove (b N : Nat) (S : Nat → Prop) (L : List Item) (k : ByteArray) (hk : k.size ≤ maxLen) (w : World) (h : QOk w b N S L) :
    Calls Try.prog 14 #[.pointer (some ⟨b, 0, none⟩), .string k] w fun e w' => e = .returned (.tuple #[]) ∧ QOk w' b N S (remL L k) ∧ Fr S w w' := remove14 b N S L k hk w h
set_option maxHeartbeats 1000000 in
theorem putnil (k : ByteArray) (a : Int) (w : World) : Calls Try.prog 8 #[.pointer none, .string k, .int .i64 a] w fun e w' => e = .returned (.tuple #[]) ∧ w = w' := by
  go_enter Try.func8, Try.ntmps8
  go_wp2_with fail
  refine bodyPost_ret (results_none rfl _ _ _) rfl ?_
  exact ⟨rfl, rfl⟩
theorem removenil (k : ByteArray) (w : World) : Calls Try.prog 14 #[.pointer none, .string k] w fun e w' => e = .returned (.tuple #[]) ∧ w = w' := by
  go_enter Try.func14, Try.ntmps14
  go_wp2_with fail
  go_end0
  exact ⟨rfl, rfl⟩
theorem nextnil (w : World) : Calls Try.prog 17 #[.pointer none] w fun e w' => e = .returned (.tuple #[.int .i64 0, .bool false]) ∧ w = w' := by
  go_enter Try.func17, Try.ntmps17
  go_wp2_with fail
  go_ret2
  exact ⟨rfl, rfl⟩
theorem lennil (w : World) : Calls Try.prog 12 #[.pointer none] w fun e w' => e = .returned (.int .i64 0) ∧ w = w' := by
  go_enter Try.func12, Try.ntmps12
  go_wp2_with fail
  go_ret
  exact ⟨rfl, rfl⟩
theorem duenil (now : Int) (w : World) : Calls Try.prog 9 #[.pointer none, .int .i64 now] w fun e w' => e = .returned (.slice none 0 0) ∧ w = w' := by
  go_enter Try.func9, Try.ntmps9
  go_wp2_with fail
  refine wp_loop_rounds 1 ?_
  rw [rounds_succ]
  go_wp2_with fail
  with_reducible refine (nextnil _).mono ?_
  rintro e w1 ⟨rfl, rfl⟩
  go_wp2_with fail
  go_ret
  exact ⟨rfl, rfl⟩
set_option maxHeartbeats 1000000 in
theorem strings11 (a b : Option Addr) (n c1 c2 : Nat) (ks : List ByteArray) (w : World) (hn : n ≤ 9223372036854775807) (hl : ks.length = n) (ha : Vals w a (ks.map Value.string)) (hb : Vals w b (ks.map Value.string)) :
    Calls Try.prog 11 #[.slice a n c1, .slice b n c2] w fun e w' => e = .returned (.bool true) ∧ Below w.heap.size w w' := by
  have HA := Lib.hid ha
  have HB := Lib.hid hb
  have HL := Lib.hid hl
  clear ha hb hl
  go_enter Try.func11, Try.ntmps11
  go_wp2_with fail
  go_loopw [5, 13] (fun _ j wr => ∃ k : Nat, k ≤ n ∧ j = .int .i64 k ∧ Below w.heap.size w wr) (fun _ j _ => n - (intOf j).toNat)
  case atStart => exact ⟨0, Nat.zero_le _, rfl, Below.refl _ _⟩
  case round =>
    obtain ⟨k, hk, rfl, hbr⟩ := hrel
    have B := Lib.hid hbr
    clear hbr
    by_cases hlt : k < n
    · obtain ⟨s, hs⟩ : ∃ s, (ks.map Value.string)[k]? = some (.string s) := ⟨ks[k]'(by rw [HL.out]; exact hlt), by rw [List.getElem?_map, List.getElem?_eq_getElem (by rw [HL.out]; exact hlt)]; rfl⟩
      obtain ⟨b1, o1, rfl, l1, g1⟩ := (HA.out.below B.out (Nat.le_refl _)).at k hs
      obtain ⟨b2, o2, rfl, l2, g2⟩ := (HB.out.below B.out (Nat.le_refl _)).at k hs
      have i1 : (k : Int) < n := by omega
      have hse : (s.toList == s.toList) = true := by simp
      clear hs
      go_wp2_with fail
      go_quiet (fail)
      go_wp2_with fail
      go_roundw
      case rel => exact ⟨k + 1, by omega, by go_num, below_drewN B.out _⟩
      case measure => simp [intOf]; omega
    · obtain rfl : k = n := by omega
      go_wp2_with fail
      go_ret
      exact ⟨rfl, B.out⟩
end Go.Proofs.Ytmbjkkoennadkaa
