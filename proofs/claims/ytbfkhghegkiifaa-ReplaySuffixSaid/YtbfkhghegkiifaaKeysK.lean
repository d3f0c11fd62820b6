/-
  maps.Keys, slices.Collect: what they give at a map.
-/
import Derived.Test.YtbfkhghegkiifaaLayS
import Derived.Shelf.SlIter.Collect
namespace Go.Proofs.Ytbfkhghegkiifaa
open Go.RowKit Go.Maps Go.Shelf Go.Sort
set_option linter.unusedVariables false
section
variable {H : Type}
/-- maps.Keys: a function value over a new block that holds the map -/
theorem keys31 (mb : Option Nat) (w : World) : Calls Try.prog 28 #[.map mb] w fun e w' =>
    e = .returned (.func (.func 36) #[] #[.pointer (some ⟨w.heap.size, 0, none⟩)]) ∧ w' = w.alloc (.cells #[.map mb] 68) :=
  (callsIn_wide (n := 5)).1 (AnyZ.keys_in keysLays Fence.wide 5 trivial rfl mb w)
set_option maxHeartbeats 1000000 in
theorem collect35 (b nn B : Nat) (D0 : DataW H) (R : Value → Option (DataW H × List MemPlace)) (w : World) (hcell : w.cell? ⟨B, 0, none⟩ = some (.map (some b))) (hB : B < w.heap.size) (hown : w.ownsMap Try.prog 9 R b nn D0) (hmax : Maps.size D0 ≤ maxLen) (hbytes : Maps.size D0 * 16 ≤ 140737488355328) :
    Calls Try.prog 34 #[.func (.func 36) #[] #[.pointer (some ⟨B, 0, none⟩)]] w fun e w' => ∃ (v : Value) (ss : List (List UInt8)), e = .returned v ∧ ss.Perm (strKeys D0) ∧
      w'.ownsRow w.heap.size 9 1 v ss.length (ss.map encStr) ∧ (v = .slice none 0 0 ↔ ss = []) ∧ Below w.heap.size w w' := by
  have hseq : SeqGives Fence.wide 3 Try.prog 36 #[.pointer (some ⟨B, 0, none⟩)] encStr (fun ss => ss.Perm (strKeys D0)) (Maps.size D0) w :=
    AnyZ.keys_gives (ρ := keysRen) { keysLays with } Fence.wide _ trivial rfl (by omega) B b nn D0 _ hB hcell hown
  exact (callsIn_wide (n := 5)).1 (AnyZ.collect_in collectLays Fence.wide 5 trivial trivial rfl (by omega) 36 #[.pointer (some ⟨B, 0, none⟩)] trivial (enters_of Try.func36 (by kernel_rfl) rfl) _ _ hmax hbytes _ hseq)
end
end Go.Proofs.Ytbfkhghegkiifaa
