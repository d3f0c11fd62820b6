/-
  The statement TopExpired is proved at the end of this text; no condition.
-/
import Derived.Test.YtbikkioipamlmaaGreatDoorCards
import Derived.Test.YtbikkioipamlmaaGreatDoorX40
import Derived.Test.YtbikkioipamlmaaGreatDoorX41
open Go.Lib (hid)
open Go.Proofs.Tryz (prog)
set_option linter.unusedVariables false
set_option linter.unusedSimpArgs false
set_option maxRecDepth 100000
set_option maxHeartbeats 20000000
namespace Go.Proofs.YtbikkioipamlmaaGreatDoor
open Go.ChangeAt Go.ChangeShapes Go.RowKit Go.WideShapes
theorem walkTopExpired (v0 : Value) (w : World) (base : Nat) (hT : CrcT crcTab w)
    (o0 : Value.okWide prog w .any base 75 v0) (r0 : Reads prog w 75 v0.cells.toList) :
    Calls prog 5 #[v0] w fun e w' => e = .returned (.bool true) /\ Below w.heap.size w w' := by
  obtain ⟨x, y, z, oa, ka, va, pa, on, oc, kn, kc, vn, vc, pn, pc, kbs, vbs, tt, rfl, hk, hv, hp, hp2⟩ := arg_timed o0 r0
  exact expired8 crcTab x y z tt oa ka va pa on oc kn kc vn vc pn pc kbs vbs w hT hk hv hp hp2
theorem liftedTopExpired (os : Os) (started : os.Started) (H : Type) (enc : TypeId × Value -> H) :
    ReturnsInHanded {} Tryz.checked os 5 .any (fun w args => (Rows.topExpiredSpec.pre enc prog Tryz.f5 [] false w args /\ laidMetH prog laidC w) /\ sizedMet enc prog Tryz.f5 (OpenSpec.ofChange Rows.topExpiredSpec) false w args)
      (Rows.topExpiredSpec.post enc prog Tryz.f5 false true false false) := by
  refine returnsInHanded_of_change_and (C := Tryz.checked) (X := fun w _ => laidMetH prog laidC w) (fun _ _ _ hh h => h.of_heap hh) own started (by kernel_rfl) Tryz.func5
    (ChangeSpec.witness_shaped (enc := enc) (C := Tryz.checked) (os := os) (X := fun w _ => laidMetH prog laidC w) false (World.doorLaid prog 14 os) #[.agg #[.int .i64 0, .int .i64 0, .int .i64 0, .slice none 0 0, .slice none 0 0, .slice none 0 0, .int .i64 0, .slice none 0 0]] 8 rfl (World.shaped_of_RefB (by kernel_rfl) (by kernel_rfl)) (by kernel_rfl) (by kernel_rfl) (by kernel_rfl) (door_met os _)) ?_
  intro W base args ds gs before hval0 hW _ _ hL _
  have hval : ∀ (j : Nat) t v, Tryz.f5.params[j]? = some t -> args[j]? = some v -> Value.okWide prog W .any base t v := hval0
  have hW' := hW
  obtain ⟨p, q, hA0, hV, rfl, hfz, hnd⟩ := hW
  have hA : DataW.TrodAll enc prog W 0 (fun _ => true) true Tryz.f5.params.toList args.toList ds p := hA0
  rw [Tryz.params5] at hA hval
  obtain ⟨v0, vs0, d0, ds0, p0, q0, hargs, rfl, rfl, h0, r0⟩ := trodAll_cons hA
  obtain ⟨rfl, rfl, rfl⟩ := trodAll_nil r0
  obtain rfl : args = #[v0] := by cases args; simp_all
  obtain ⟨rfl, rfl⟩ := trodVars_none hV
  have lt0 : ∀ x ∈ p0, x.block < W.heap.size := by obtain ⟨m, hm⟩ := h0; exact DataW.trod_lt m _ _ _ hm
  clear hA0 hval0
  refine (walkTopExpired v0 W base (crc_of_laid hL) (hval 0 75 v0 rfl rfl) (Reads.of h0)).mono fun e W' ⟨he, bel⟩ => ?_
  subst he
  exact ⟨_, rfl, _, _, _, [], _, [], hW', trodAll_mk1 (shut_bool Tryz.underlying4 _), (trodAll_cons_mk (Below.trod laidOut (by kernel_rfl) (of_decide_eq_true (by kernel_rfl)) h0 bel lt0) trodAll_mk0), rfl, bel.frame _, fun h => by cases h⟩
theorem overTopExpired : Rows.TopExpiredSaid :=
  OpenClaim.holds_of_wide (p := Tryz.pinned) 5 Tryz.f5 rfl rfl rfl rfl rfl rfl rfl ⟨rfl, rfl, rfl, rfl, rfl⟩ rfl rfl rfl rfl rfl nameTopExpired Tryz.func5 factsTopExpired instTopExpired wrapTopExpired
    (fun os started H enc _ => liftedTopExpired os started H enc)
theorem topExpired_holds : Rows.TopExpiredCardSaid :=
  Claim7.holds_tied_plain_at .later (p := Tryz.pinned) [] [.data] true (true, "8f5fbeeac87b69f7df12349dc6bb13f0cb6c049d6dffd2ae6469f8140c665469") false
    overTopExpired (fun _ h => by cases h) wftTopExpired (fun _ h => by cases h) topExpired_row_tie rfl ⟨rfl, rfl⟩ mainTopExpired rfl
    (fun f fn hf hfn => by
      obtain rfl : f = 5 := Option.some.inj (nameTopExpired.symm.trans hf) |>.symm
      obtain rfl : fn = Tryz.f5 := (Option.some.inj (Tryz.func5.symm.trans hfn)).symm
      exact ⟨looksTopExpired, fun j t ht => by
        rw [Tryz.params5] at ht
        have hm : t ∈ [75] := by simpa using Array.mem_of_getElem? ht
        exact (show prog.wantsStandIn t = false by simpa using List.all_eq_true.1 standTopExpired t hm)⟩)
    goesTopExpired
end Go.Proofs.YtbikkioipamlmaaGreatDoor
