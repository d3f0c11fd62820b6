/-
  Awake of the laws on the queue.
-/
import Derived.Test.YtmbjkkoennadkaaQOps
namespace Go.Proofs.Ytmbjkkoennadkaa
open Go.RowKit Go.Maps
set_option linter.unusedVariables false
abbrev kA : ByteArray := ⟨#[97]⟩
abbrev kB : ByteArray := ⟨#[98]⟩
abbrev kC : ByteArray := ⟨#[99]⟩
theorem awakeL : putL (putL (putL [] kB 5) kA 5) kC 3 = [⟨kC, 3⟩, ⟨kA, 5⟩, ⟨kB, 5⟩] := by kernel_rfl
theorem awakeE : early [⟨kC, 3⟩, ⟨kA, 5⟩, ⟨kB, 5⟩] 5 = [⟨kC, 3⟩, ⟨kA, 5⟩, ⟨kB, 5⟩] ∧ late [⟨kC, 3⟩, ⟨kA, 5⟩, ⟨kB, 5⟩] 5 = [] := ⟨by kernel_rfl, by kernel_rfl⟩
theorem cond_put {w wr w' : World} {b N N' : Nat} {S : Nat → Prop} {L L' : List Item} (h : QOk wr b N S L ∧ Fr (fun _ => False) w wr ∧ ∀ k, S k → w.heap.size ≤ k)
    (k : ∃ S', QOk w' b N' S' L' ∧ Fr S wr w' ∧ ∀ j, S' j → S j ∨ wr.heap.size ≤ j) : ∃ S', QOk w' b N' S' L' ∧ Fr (fun _ => False) w w' ∧ ∀ k, S' k → w.heap.size ≤ k := by
  obtain ⟨h1, h2, h3⟩ := h
  obtain ⟨S', k1, k2, k3⟩ := k
  refine ⟨S', k1, h2.trans k2 (fun j hj => .inr (h3 j hj)), fun j hj => ?_⟩
  rcases k3 j hj with e | e
  · exact h3 j e
  · exact Nat.le_trans h2.size e
theorem fr_below {w w' : World} (h : Fr (fun _ => False) w w') : Below w.heap.size w w' := ⟨h.os, h.tape, h.output, h.size, fun k hk => h.block k hk (fun f => f)⟩
theorem fr_new {S : Nat → Prop} {w wr w' : World} (h : Fr (fun _ => False) w wr) (k : Fr S wr w') (hS : ∀ j, S j → w.heap.size ≤ j) : Fr (fun _ => False) w w' := h.trans k (fun j hj => .inr (hS j hj))
set_option maxHeartbeats 2000000 in
theorem awake10 (w : World) : Calls Try.prog 10 #[] w fun e w' => e = .returned (.bool true) ∧ Below w.heap.size w w' := by
  go_enter Try.func10, Try.ntmps10
  go_wp2_with fail
  with_reducible refine (new7 _).mono ?_
  rintro e w1 ⟨b, S, rfl, q1, f1, n1⟩
  have Q1 := Lib.hid (And.intro q1 (And.intro f1 n1))
  clear q1 f1 n1
  go_wp2_with fail
  with_reducible refine (qput b 0 S [] kB 5 _ (by omega) (by decide) (by decide) Q1.out.1).mono ?_
  rintro e w2 ⟨rfl, h2⟩
  obtain ⟨S2, q2⟩ := cond_put Q1.out h2
  have Q2 := Lib.hid q2
  clear q2 h2
  go_wp2_with fail
  with_reducible refine (qput b 1 S2 _ kA 5 _ (by omega) (by decide) (by decide) Q2.out.1).mono ?_
  rintro e w3 ⟨rfl, h3⟩
  obtain ⟨S3, q3⟩ := cond_put Q2.out h3
  have Q3 := Lib.hid q3
  clear q3 h3
  go_wp2_with fail
  with_reducible refine (qput b 2 S3 _ kC 3 _ (by omega) (by decide) (by decide) Q3.out.1).mono ?_
  rintro e w4 ⟨rfl, h4⟩
  obtain ⟨S4, q4⟩ := cond_put Q3.out h4
  rw [awakeL] at q4
  have Q4 := Lib.hid q4
  clear q4 h4
  go_wp2_with fail
  with_reducible refine (qdue b 3 S4 _ 5 _ (by omega) Q4.out.1).mono ?_
  rintro e w5 ⟨sl, rfl, hr, q5, f5⟩
  rw [awakeE.1] at hr
  rw [awakeE.2] at q5
  have Q5 := Lib.hid q5
  have F5 := Lib.hid (fr_new Q4.out.2.1 f5 Q4.out.2.2)
  obtain ⟨a, cap, rfl, hv, _, _, _, _⟩ := ownsRow_vals hr
  have HV := Lib.hid hv
  clear q5 f5 hr hv
  go_wp2_with fail
  have HV5 := Lib.hid (HV.out.below ((Below.refl w5.heap.size w5).alloc (Nat.le_refl _) (.cells #[.string kC, .string kA, .string kB] 9)) (Nat.le_refl _))
  have HN5 := Lib.hid (show Vals (w5.alloc (.cells #[.string kC, .string kA, .string kB] 9)) (some ⟨w5.heap.size, 0, none⟩) ([kC, kA, kB].map Value.string) from Vals.new w5 _ _)
  with_reducible refine (strings11 _ _ 3 _ _ [kC, kA, kB] _ (by omega) rfl HV5.out HN5.out).mono ?_
  rintro e w6 ⟨rfl, hb6⟩
  have F6 := Lib.hid (fr_new F5.out (Fr.of_below (S := fun _ => False) (((Below.refl w5.heap.size w5).alloc (Nat.le_refl _) _).trans (hb6.mono (by simp)))) (fun _ f => f.elim))
  have Q6 := Lib.hid (Q5.out.frame (T := fun _ => False) (Fr.of_below (((Below.refl w5.heap.size w5).alloc (Nat.le_refl _) _).trans (hb6.mono (by simp)))) (fun _ _ f => f))
  clear hb6
  go_wp2_with fail
  with_reducible refine (len12 b 3 S4 _ _ Q6.out).mono ?_
  rintro e w7 ⟨rfl, rfl⟩
  go_wp2_with fail
  go_ret
  exact ⟨rfl, fr_below F6.out⟩
end Go.Proofs.Ytmbjkkoennadkaa
