/-
  Awake of the laws on the sketch; how a sketch keeps while other memory changes.
-/
import Derived.Test.YtkmlnohccaogjaaSkPlain
import Derived.Test.YtkmlnohccaogjaaRead
import Derived.WalkSmall
namespace Go.Proofs.Ytkmlnohccaogjaa
open Go.RowKit
theorem Sk.lt {k : IntKind} {w : World} {b : Nat} {c : Nat → Nat} {n : Nat} (h : Sk k w b c n) : b < w.heap.size := World.block_lt_of_cell? _ _ h.2.1
theorem Sk.same {k : IntKind} {w w' : World} {b : Nat} {c : Nat → Nat} {n : Nat} (h : Sk k w b c n) (hb : w'.heap[b]? = w.heap[b]?) : Sk k w' b c n := by
  refine ⟨fun i hi => ?_, ?_, fun i => ?_⟩
  · rw [World.cell?_of_block (w := w) (a := ⟨b, i, none⟩) hb]; exact h.1 i hi
  · rw [World.cell?_of_block (w := w) (a := ⟨b, 256, none⟩) hb]; exact h.2.1
  · rw [World.frozen?_of_block (w := w) (a := ⟨b, i, none⟩) hb]; exact h.2.2 i
theorem Sk.grown {k : IntKind} {w w' : World} {b : Nat} {c : Nat → Nat} {n : Nat} {r : Option Nat} (h : Sk k w b c n) (g : w.grownBy w' r) (hne : some b ≠ r) : Sk k w' b c n :=
  h.same (g.block b h.lt hne)
theorem Sk.below {k : IntKind} {w w' : World} {b : Nat} {c : Nat → Nat} {n : Nat} (h : Sk k w b c n) (g : Below w.heap.size w w') : Sk k w' b c n :=
  h.same (g.block b h.lt)
set_option maxHeartbeats 1000000 in
theorem awake19 (w : World) : Calls Try.prog 12 #[] w fun e w' => e = .returned (.bool true) ∧ Below w.heap.size w w' := by
  have hc1 := touchC_le (fun _ => 0) 0 5 (fun _ => Nat.zero_le _)
  have hc2 := touchC_le _ 1 5 hc1
  have HC1 := Lib.hid hc1
  have HC2 := Lib.hid hc2
  have v1 := Lib.hid (show (estD (touchC (touchC (fun _ => 0) 0 5) 1 5) 5 4 : Int) = 2 from by decide +kernel)
  have v2 := Lib.hid (show (estD (touchC (touchC (fun _ => 0) 0 5) 1 5) 1048576 4 : Int) = 0 from by decide +kernel)
  clear hc1 hc2
  go_enter Try.func12, Try.ntmps12
  go_wp2_with fail
  with_reducible refine (new6 _).mono ?_
  rintro e w1 ⟨rfl, k1, g1⟩
  have K1 := Lib.hid k1
  have B1 := Lib.hid ((Below.refl w.heap.size w).grown g1 (Nat.le_refl _) (fun k hk => by cases hk))
  clear k1 g1
  go_wp2_with fail
  with_reducible refine (touch7 _ 5 _ _ _ (by omega) (by omega) K1.out (fun _ => Nat.zero_le _) (by omega)).mono ?_
  rintro e w2 ⟨he, k2, g2⟩
  unfold NoRes at he
  subst he
  rw [show touchN 0 = 1 from rfl] at k2
  have K2 := Lib.hid k2
  have B2 := Lib.hid (B1.out.grown g2 B1.out.size (fun k hk => by cases hk; exact Nat.le_refl _))
  clear k2 g2
  go_wp2_with fail
  with_reducible refine (touch7 _ 5 _ _ _ (by omega) (by omega) K2.out HC1.out (by decide)).mono ?_
  rintro e w3 ⟨he, k3, g3⟩
  unfold NoRes at he
  subst he
  rw [show touchN 1 = 2 from rfl] at k3
  have K3 := Lib.hid k3
  have B3 := Lib.hid (B2.out.grown g3 B2.out.size (fun k hk => by cases hk; exact Nat.le_refl _))
  clear k3 g3
  go_wp2_with fail
  with_reducible refine (est10 _ 5 _ _ _ (by omega) (by omega) K3.out HC2.out).mono ?_
  rintro e w4 ⟨rfl, m4, rfl⟩
  rw [v1.out]
  go_wp2_with fail
  with_reducible refine (touches9 _ _ _ _ (K3.out.drewN m4)).mono ?_
  rintro e w5 ⟨rfl, rfl⟩
  go_wp2_with fail
  with_reducible refine (est10 _ 1048576 _ _ _ (by omega) (by omega) (K3.out.drewN m4) HC2.out).mono ?_
  rintro e w6 ⟨rfl, m6, rfl⟩
  rw [v2.out]
  go_wp2_with fail
  go_ret
  exact ⟨rfl, below_drewN B3.out _⟩
end Go.Proofs.Ytkmlnohccaogjaa
