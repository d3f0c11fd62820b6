/-
  Awake of the laws on geometry.
-/
import Derived.Test.YtolfepbelekcoaaGeo3
import Derived.Test.YtolfepbelekcoaaReadLay
namespace Go.Proofs.Ytolfepbelekcoaa
open Go.RowKit
set_option maxHeartbeats 2000000 in
theorem awake12 (w : World) : Calls Try.prog 10 #[] w fun e w' => e = .returned (.bool true) ∧ Below w.heap.size w w' := by
  have c1 := fun W => overlap8 1 1 4 4 1 2 1 2 8 2 W
  have c2 := fun W => overlap8 1 1 4 4 1 2 1 2 8 3 W
  have c3 := fun W => overlap8 1 1 4 4 1 2 1 2 8 4 W
  have c4 := fun W => first13 1 1 4 4 1 W
  have c5 := fun W => capacity14 1 1 4 4 W
  rw [show overlapB ⟨1, 1, 4, 4⟩ 1 ⟨2, 1, 2, 8⟩ 2 = true from by decide +kernel] at c1
  rw [show overlapB ⟨1, 1, 4, 4⟩ 1 ⟨2, 1, 2, 8⟩ 3 = true from by decide +kernel] at c2
  rw [show overlapB ⟨1, 1, 4, 4⟩ 1 ⟨2, 1, 2, 8⟩ 4 = false from by decide +kernel] at c3
  rw [show firstD ⟨1, 1, 4, 4⟩ 1 = 78 from by decide +kernel] at c4
  rw [show capD ⟨1, 1, 4, 4⟩ = 177 from by decide +kernel] at c5
  have C1 := Lib.hid c1; have C2 := Lib.hid c2; have C3 := Lib.hid c3; have C4 := Lib.hid c4; have C5 := Lib.hid c5
  clear c1 c2 c3 c4 c5
  go_enter Try.func10, Try.ntmps10
  go_wp2_with fail
  with_reducible refine (C1.out _).mono ?_
  rintro e w1 ⟨rfl, hb⟩
  obtain ⟨hc, _⟩ := bcell hb
  go_wp2_with fail
  with_reducible refine (C2.out _).mono ?_
  rintro e w2 ⟨rfl, hb'⟩
  replace hb := bel_trans hb hb'
  clear hc hb'
  obtain ⟨hc, _⟩ := bcell hb
  go_wp2_with fail
  with_reducible refine (C3.out _).mono ?_
  rintro e w3 ⟨rfl, hb'⟩
  replace hb := bel_trans hb hb'
  clear hc hb'
  obtain ⟨hc, _⟩ := bcell hb
  go_wp2_with fail
  with_reducible refine (C4.out _).mono ?_
  rintro e w4 ⟨rfl, hb'⟩
  replace hb := bel_trans hb hb'
  clear hc hb'
  obtain ⟨hc, _⟩ := bcell hb
  go_wp2_with fail
  with_reducible refine (C5.out _).mono ?_
  rintro e w5 ⟨rfl, hb'⟩
  replace hb := bel_trans hb hb'
  clear hc hb'
  obtain ⟨hc, _⟩ := bcell hb
  go_wp2_with fail
  go_ret
  exact ⟨rfl, bel2 hb⟩
end Go.Proofs.Ytolfepbelekcoaa
