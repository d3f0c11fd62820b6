/-
  TableKeys: keys of any bytes are kept apart: of up to 20 of them, each has the entry that was set last. No condition.
-/
import Derived.Test.YtkjhofmimggpnaaKeysLaw
namespace Go.Proofs.Ytkjhofmimggpnaa
open Go.RowKit Go.Maps Go.ChangeShapes Go.WideShapes Go.ChangeAt
set_option linter.unusedVariables false
theorem arg_strs {w : World} {base : Nat} {t e : TypeId} {v : Value} (ht : Try.prog.underlying t = some (.slice e)) (he : Try.prog.underlying e = some .string) (hC : Try.prog.cellsOf e = 1) (o : Value.okWide Try.prog w .any base t v) (r : Reads Try.prog w t v.cells.toList) :
    ∃ (a : Option Addr) (len cap : Nat) (ks : List ByteArray), v = .slice a len cap ∧ len ≤ cap ∧ cap ≤ maxLen ∧ (a = none → len = 0 ∧ cap = 0) ∧ ks.length = len ∧ Vals w a (ks.map Value.string) ∧ ∀ k ∈ ks, k.size ≤ maxLen := by
  obtain ⟨a', len', cap', rfl⟩ := okWide_slice ht o
  obtain ⟨a, len, cap, ks, h0, h⟩ := r.strs ht he hC
  simp [Value.cells] at h0
  obtain ⟨rfl, rfl, rfl⟩ := h0
  exact ⟨_, _, _, ks, rfl, h⟩
theorem walkTableKeys (v0 : Value) (w : World) (base : Nat)
    (o0 : Value.okWide Try.prog w .any base 22 v0) (r0 : Reads Try.prog w 22 v0.cells.toList) :
    Calls Try.prog 3 #[v0] w fun e w' => e = .returned (.bool true) ∧ Below w.heap.size w w' := by
  obtain ⟨a, len, cap, ks, rfl, h1, h2, h3, h4, h5, h6⟩ := arg_strs Try.underlying22 Try.underlying9 (by kernel_rfl) o0 r0
  exact keyslaw a len cap ks w h1 (by unfold maxLen at h2; omega) h3 h4 h5 h6
set_option maxRecDepth 100000 in
theorem liftedTableKeys (os : Os) (started : os.Started) (H : Type) (enc : TypeId × Value → H) :
    ReturnsInHanded {} Try.checked os 3 .any (Rows.tableKeysSpec.pre6 enc Try.prog Try.f3 Rows.tableKeysRow.domain false) (Rows.tableKeysSpec.post enc Try.prog Try.f3 false true false false) := by
  refine returnsInHanded_of_change (C := Try.checked) own started (by kernel_rfl) Try.func3
    (ChangeSpec.witness6 (enc := enc) (C := Try.checked) false ⟨#[], #[.slice none 0 0], []⟩ 8 (by kernel_rfl) (by kernel_rfl) (by kernel_rfl) (by kernel_rfl)) ?_
  intro W base args ds gs before hval0 hW hcnd _
  have hval : ∀ (j : Nat) t v, Try.f3.params[j]? = some t → args[j]? = some v → Value.okWide Try.prog W .any base t v := hval0
  have hW' := hW
  obtain ⟨p, q, hA0, hV, rfl, hfz, hnd⟩ := hW
  have hA : DataW.TrodAll enc Try.prog W 0 (fun _ => true) true Try.f3.params.toList args.toList ds p := hA0
  rw [Try.params3] at hA hval
  obtain ⟨v0, vs0, d0, ds0, p0, q0, hargs, rfl, rfl, h0, r0⟩ := trodAll_cons hA
  obtain ⟨rfl, rfl, rfl⟩ := trodAll_nil r0
  obtain rfl : args = #[v0] := by cases args; simp_all
  obtain ⟨rfl, rfl⟩ := trodVars_none hV
  have lt0 : ∀ x ∈ p0, x.block < W.heap.size := by obtain ⟨m, hm⟩ := h0; exact DataW.trod_lt m _ _ _ hm
  clear hA0 hval0
  refine (walkTableKeys v0 W base (hval 0 22 v0 rfl rfl) (Reads.of h0)).mono fun e W' ⟨he, bel⟩ => ?_
  subst he
  exact ⟨_, rfl, _, _, _, [], _, [], hW', trodAll_mk1 (shut_bool Try.underlying4 _), (trodAll_cons_mk (Below.trod laidOut (by kernel_rfl) (of_decide_eq_true (by kernel_rfl)) h0 bel lt0) trodAll_mk0), rfl, bel.frame _, fun h => by cases h⟩

theorem overTableKeys : Rows.tableKeysRow.holds Try.pinned (OpenSpec.ofChange Rows.tableKeysSpec) :=
  OpenClaim.holds_of_wide 3 Try.f3 rfl rfl rfl rfl rfl rfl rfl ⟨rfl, rfl, rfl, rfl, rfl⟩ rfl rfl rfl rfl rfl (by kernel_rfl) Try.func3 (by kernel_rfl)
    (of_decide_eq_true (by kernel_rfl)) (by unfold Func.isWrapper; first | (rw [if_pos (by decide +kernel)]; kernel_rfl) | (rw [if_neg (by decide +kernel)]; exact ⟨rfl, rfl⟩))
    (fun os started H enc _ => liftedTableKeys os started H enc)

/-- The statement. -/
theorem tableKeys_holds : Rows.TableKeysSaid := overTableKeys
#print axioms tableKeys_holds
end Go.Proofs.Ytkjhofmimggpnaa
