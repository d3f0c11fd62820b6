/-
  The order of the items of the queue, and its contract.
-/
import Derived.Test.YtmbjkkoennadkaaCmp
import Derived.Deep.RegionHeld3
namespace Go.Proofs.Ytmbjkkoennadkaa
open Go.RowKit
/-- a key with an expiry -/
structure Item where
  key : ByteArray
  at' : Int
def ltI (a b : Item) : Bool := decide (orD (cmpI a.at' b.at') (cmpS a.key b.key) < 0)
theorem keepS {n : Nat} {W0 W w' : World} (h : (∀ b o, b < n → W.cell? ⟨b, o, none⟩ = W0.cell? ⟨b, o, none⟩) ∧ Below n W0 W) (h0 : n ≤ W0.heap.size) (hb : Below W.heap.size W w') :
    (∀ b o, b < n → w'.cell? ⟨b, o, none⟩ = W0.cell? ⟨b, o, none⟩) ∧ Below n W0 w' := by
  have k := h.2.trans (hb.mono (Nat.le_trans h0 h.2.size))
  exact ⟨fun b o hlt => k.cell (p := ⟨b, o, none⟩) hlt, k⟩
theorem keepA {n : Nat} {W0 W : World} {o : Obj} (h : (∀ b o, b < n → W.cell? ⟨b, o, none⟩ = W0.cell? ⟨b, o, none⟩) ∧ Below n W0 W) (h0 : n ≤ W0.heap.size) :
    (∀ b o', b < n → (W.alloc o).cell? ⟨b, o', none⟩ = W0.cell? ⟨b, o', none⟩) ∧ Below n W0 (W.alloc o) := by
  have k := h.2.alloc (Nat.le_trans h0 h.2.size) o
  exact ⟨fun b o hlt => k.cell (p := ⟨b, o, none⟩) hlt, k⟩
theorem elems_two (W : World) (b : Nat) (hb : b = W.heap.size) (t : TypeId) (x y : Int) : Elems .i64 (W.alloc (.cells #[.int .i64 x, .int .i64 y] t)) (some ⟨b, 0, none⟩) 2 [x, y] := by
  subst hb
  intro i hi
  refine ⟨_, _, rfl, by simp, ?_⟩
  rw [World.cell?_alloc_at _ _ _ _ rfl]
  have : i = 0 ∨ i = 1 := by omega
  rcases this with rfl | rfl <;> rfl
theorem ret_bool' {a b : Bool} (h : a = b) : Ending.returned (.bool a) = .returned (.bool b) := by rw [h]
theorem Elems.drew {k : IntKind} {w : World} {a : Option Addr} {n : Nat} {zs : List Int} (h : Elems k w a n zs) : Elems k w.drew a n zs := fun i hi => h i hi
set_option maxHeartbeats 1000000 in
theorem sooner18 (k1 k2 : ByteArray) (a1 a2 : Int) (w : World) :
    Calls Try.prog 18 #[.agg #[.string k1, .int .i64 a1], .agg #[.string k2, .int .i64 a2]] w fun e w' => e = .returned (.bool (ltI ⟨k1, a1⟩ ⟨k2, a2⟩)) ∧ Below w.heap.size w w' := by
  have c1 := fun W => cmpint a1 a2 W
  have c2 := fun W => cmpstr k1 k2 W
  have c3 := fun (W : World) (b : Nat) (he : Elems .i64 W (some ⟨b, 0, none⟩) 2 [cmpI a1 a2, cmpS k1 k2]) => orint (some ⟨b, 0, none⟩) 2 (cmpI a1 a2) (cmpS k1 k2) W he
  have HL := Lib.hid (show ltI ⟨k1, a1⟩ ⟨k2, a2⟩ = decide (orD (cmpI a1 a2) (cmpS k1 k2) < 0) from rfl)
  generalize orD (cmpI a1 a2) (cmpS k1 k2) = r at *
  generalize cmpI a1 a2 = x at *
  generalize cmpS k1 k2 = y at *
  generalize ltI ⟨k1, a1⟩ ⟨k2, a2⟩ = L at *
  have C1 := Lib.hid c1; have C2 := Lib.hid c2; have C3 := Lib.hid c3
  clear c1 c2 c3
  go_enter Try.func18, Try.ntmps18
  go_wp2_with fail
  go_region_held3 (fun w' => (∀ b o, b < w.heap.size + 2 → w'.cell? ⟨b, o, none⟩ = ((w.alloc (.cells #[.string k1, .int .i64 a1] 57)).alloc (.cells #[.string k2, .int .i64 a2] 57)).cell? ⟨b, o, none⟩) ∧ Below (w.heap.size + 2) ((w.alloc (.cells #[.string k1, .int .i64 a1] 57)).alloc (.cells #[.string k2, .int .i64 a2] 57)) w')
    (first | exact ⟨fun _ _ _ => rfl, (Below.refl _ _).drew⟩ | exact keepA (n := w.heap.size + 2) (by assumption) (by simp) | assumption)
    (first
      | (go_at_call 23; (with_reducible refine (C1.out _).mono ?_); rintro e w1 ⟨rfl, rfl⟩)
      | (go_at_call 24; (with_reducible refine (C2.out _).mono ?_); rintro e w1 ⟨rfl, rfl⟩)
      | (go_at_call 22; (with_reducible refine (C3.out _ _ ?_).mono ?_); (exact Elems.drew (elems_two _ _ (by simp) _ _ _)); rintro e w1 ⟨rfl, rfl⟩))
  go_wp2_with fail
  go_ret
  exact ⟨ret_bool' HL.out.symm, ((((Below.refl _ _).alloc (Nat.le_refl _) _).alloc (by simp <;> omega) _).alloc (by simp <;> omega) _).drew⟩
end Go.Proofs.Ytmbjkkoennadkaa
