/-
  SlotsOrder: Order, Tail and Foreign agree with the reference, for up to ten regions in any order. No condition.
-/
import Derived.Test.YtkafffoaaklhiaaSlForeign2
import Derived.Deep.RegionHeld3
namespace Go.Proofs.Ytkafffoaaklhiaa
open Go.RowKit Go.Maps Go.ChangeShapes Go.WideShapes Go.ChangeAt
set_option linter.unusedVariables false
/-- a call that hands back the list R in memory -/
theorem own_forE {w w' : World} {v : Value} {n : Nat} {R : List Reg} (hn : R.length = n) (h : w'.ownsRow w.heap.size 36 10 v n (regC R)) (hb : Below w.heap.size w w') : ForE w R (.returned v) w' := by
  obtain ⟨a, cap, rfl, hv, _⟩ := ownsRow_vals h
  exact ⟨a, cap, by rw [hn], hv, hb⟩
set_option maxRecDepth 100000 in
set_option maxHeartbeats 16000000 in
theorem orderlaw (t : Lay) (a : Option Addr) (len cap : Nat) (L : List Reg) (next : Int) (w : World) (hlc : len ≤ cap) (hcm : cap ≤ 9223372036854775807) (h0 : a = none → len = 0 ∧ cap = 0) (hl : L.length = len) (hv : Vals w a (regC L)) :
    Calls Try.prog 7 #[.agg #[.int .i64 t.id, .int .i64 t.ver, .int .i64 t.rs, .int .i64 t.rg], .slice a len cap, .int .i64 next] w fun e w' => e = .returned (.bool true) ∧ Below w.heap.size w w' := by
  obtain ⟨n, hn⟩ : ∃ n : Nat, (if 10 < (len : Int) then (10 : Int) else (len : Int)) = (n : Int) := ⟨(if 10 < (len : Int) then (10 : Int) else (len : Int)).toNat, by split <;> omega⟩
  have hn10 : n ≤ 10 := by split at hn <;> omega
  have hnl : n ≤ len := by split at hn <;> omega
  have hnc : n ≤ cap := by omega
  have hll : (L.take n).length = n := by rw [List.length_take]; omega
  have H0 := Lib.hid (show a = none → n = 0 ∧ cap = 0 from fun h => ⟨by have := (h0 h).1; omega, (h0 h).2⟩)
  have HV := Lib.hid (vals_take hv n)
  obtain ⟨l, hle⟩ : ∃ l, L.take n = l := ⟨_, rfl⟩
  rw [hle] at HV hll
  have hsl := (sort_all l).2.2
  rw [hll] at hsl
  have C1 := Lib.hid (fun W (h : Below w.heap.size w W) => (order18 a n cap l W hll (by omega) (HV.out.below h (Nat.le_refl _)) H0.out).mono (R' := ForE W (sortR l)) (by rintro e w' ⟨v, rfl, h1, h2⟩; exact own_forE hsl h1 h2))
  have C2 := Lib.hid (fun W (h : Below w.heap.size w W) => (reforder20 a n cap l W hll (by omega) (HV.out.below h (Nat.le_refl _))).mono (R' := ForE W (sortR l)) (by rintro e w' ⟨v, rfl, h1, h2⟩; exact own_forE hsl h1 h2))
  have C3 := Lib.hid (fun W (h : Below w.heap.size w W) => tail16 a n cap l next W hll (by omega) (HV.out.below h (Nat.le_refl _)) H0.out)
  have C4 := Lib.hid (fun W (h : Below w.heap.size w W) => reftail21 a n cap l next W hll (by omega) (HV.out.below h (Nat.le_refl _)))
  have C5 := Lib.hid (fun W (h : Below w.heap.size w W) => foreign22 t a n cap l W hll (by omega) (HV.out.below h (Nat.le_refl _)) H0.out)
  have C6 := Lib.hid (fun W (h : Below w.heap.size w W) => (refforeign23 t a n cap l W hll (by omega) (HV.out.below h (Nat.le_refl _))).mono (R' := ForE W (forD t (sortR l))) (by rintro e w' ⟨v, rfl, h1, h2⟩; exact own_forE rfl h1 h2))
  have SLen : (sortR l).length ≤ 1000 := by omega
  have FLen : (forD t (sortR l)).length ≤ 1000 := by have := forD_len t (sortR l); omega
  obtain ⟨S, hS⟩ : ∃ S, sortR l = S := ⟨_, rfl⟩
  rw [hS] at C1 C2 C5 C6 SLen FLen
  obtain ⟨F, hF⟩ : ∃ F, forD t S = F := ⟨_, rfl⟩
  rw [hF] at C5 C6 FLen
  obtain ⟨td, htd⟩ : ∃ d, tailD l next = d := ⟨_, rfl⟩
  rw [htd] at C3 C4
  clear hv h0 hl hle hll hsl hS hF htd HV
  go_enter Try.func7, Try.ntmps7
  go_wp2_with fail
  clear hn
  go_region_held3 (fun w' => (∀ b o, b < w.heap.size + 1 → w'.cell? ⟨b, o, none⟩ = (w.alloc (.cells #[.int .i64 t.id, .int .i64 t.ver, .int .i64 t.rs, .int .i64 t.rg] 23)).cell? ⟨b, o, none⟩) ∧ Below (w.heap.size + 1) (w.alloc (.cells #[.int .i64 t.id, .int .i64 t.ver, .int .i64 t.rs, .int .i64 t.rg] 23)) w')
    (first | exact ⟨fun _ _ _ => rfl, (Below.refl _ _).drew⟩ | exact keepS (n := w.heap.size + 1) (by assumption) (by simp) hb9 | exact keepS (n := w.heap.size + 1) (by assumption) (by simp) hb8 | exact keepS (n := w.heap.size + 1) (by assumption) (by simp) hb7 | exact keepS (n := w.heap.size + 1) (by assumption) (by simp) hb6 | exact keepS (n := w.heap.size + 1) (by assumption) (by simp) hb5 | exact keepS (n := w.heap.size + 1) (by assumption) (by simp) hb4 | exact keepS (n := w.heap.size + 1) (by assumption) (by simp) hb3 | exact keepS (n := w.heap.size + 1) (by assumption) (by simp) hb2 | exact keepS (n := w.heap.size + 1) (by assumption) (by simp) hb1)
    (first
      | (go_at_call 10; (with_reducible refine (awake10 _).mono ?_); rintro e w1 ⟨rfl, hb1⟩)
      | (go_at_call 18; (with_reducible refine (C1.out _ ?_).mono ?_); (exact bel1 (by simpa using (by assumption : _ ∧ _).2)); rintro e w2 ⟨a2, c2, rfl, he2, hb2⟩)
      | (go_at_call 20; (with_reducible refine (C2.out _ ?_).mono ?_); (exact bel1 (by simpa using (by assumption : _ ∧ _).2)); rintro e w3 ⟨a3, c3, rfl, he3, hb3⟩)
      | (go_at_call 19; (with_reducible refine (eq19 _ _ _ _ _ S _ rfl SLen (he2.below hb3 (Nat.le_refl _)) he3).mono ?_); rintro e w4 ⟨rfl, hb4⟩)
      | (go_at_call 16; (with_reducible refine (C3.out _ ?_).mono ?_); (exact bel1 (by simpa using (by assumption : _ ∧ _).2)); rintro e w5 ⟨rfl, hb5⟩)
      | (go_at_call 21; (with_reducible refine (C4.out _ ?_).mono ?_); (exact bel1 (by simpa using (by assumption : _ ∧ _).2)); rintro e w6 ⟨rfl, hb6⟩)
      | (go_at_call 22; (with_reducible refine (C5.out _ ?_).mono ?_); (exact bel1 (by simpa using (by assumption : _ ∧ _).2)); rintro e w7 ⟨a7, c7, rfl, he7, hb7⟩)
      | (go_at_call 23; (with_reducible refine (C6.out _ ?_).mono ?_); (exact bel1 (by simpa using (by assumption : _ ∧ _).2)); rintro e w8 ⟨a8, c8, rfl, he8, hb8⟩)
      | (go_at_call 19; (with_reducible refine (eq19 _ _ _ _ _ F _ rfl FLen (he7.below hb8 (Nat.le_refl _)) he8).mono ?_); rintro e w9 ⟨rfl, hb9⟩))
  all_goals
    have hfin := Lib.hid (show Below w.heap.size w w9 from bel1 (by simpa using (by assumption : _ ∧ _).2))
    go_wp2_with fail
    go_ret
    exact ⟨rfl, hfin.out⟩
theorem walkSlotsOrder (v0 v1 v2 : Value) (w : World) (base : Nat)
    (o0 : Value.okWide Try.prog w .any base 23 v0) (r0 : Reads Try.prog w 23 v0.cells.toList)
    (o1 : Value.okWide Try.prog w .any base 24 v1) (r1 : Reads Try.prog w 24 v1.cells.toList)
    (o2 : Value.okWide Try.prog w .any base 3 v2) (r2 : Reads Try.prog w 3 v2.cells.toList) :
    Calls Try.prog 7 #[v0, v1, v2] w fun e w' => e = .returned (.bool true) ∧ Below w.heap.size w w' := by
  obtain ⟨t, rfl, ht⟩ := arg_lay o0 r0
  obtain ⟨a, len, cap, L, rfl, h1, h2, h3, h4, h5⟩ := arg_regl o1 r1
  obtain ⟨n, rfl, hn⟩ := arg_int Try.underlying3 o2 r2
  exact orderlaw t a len cap L n w h1 h2 h3 h4 h5
set_option maxRecDepth 100000 in
theorem liftedSlotsOrder (os : Os) (started : os.Started) (H : Type) (enc : TypeId × Value → H) :
    ReturnsInHanded {} Try.checked os 7 .any (Rows.slotsOrderSpec.pre6 enc Try.prog Try.f7 Rows.slotsOrderRow.domain false) (Rows.slotsOrderSpec.post enc Try.prog Try.f7 false true false false) := by
  refine returnsInHanded_of_change (C := Try.checked) own started (by kernel_rfl) Try.func7
    (ChangeSpec.witness6 (enc := enc) (C := Try.checked) false ⟨#[], #[.agg #[.int .i64 0, .int .i64 0, .int .i64 0, .int .i64 0], .slice none 0 0, .int .i64 0], []⟩ 8 (by kernel_rfl) (by kernel_rfl) (by kernel_rfl) (by kernel_rfl)) ?_
  intro W base args ds gs before hval0 hW hcnd _
  have hval : ∀ (j : Nat) t v, Try.f7.params[j]? = some t → args[j]? = some v → Value.okWide Try.prog W .any base t v := hval0
  have hW' := hW
  obtain ⟨p, q, hA0, hV, rfl, hfz, hnd⟩ := hW
  have hA : DataW.TrodAll enc Try.prog W 0 (fun _ => true) true Try.f7.params.toList args.toList ds p := hA0
  rw [Try.params7] at hA hval
  obtain ⟨v0, vs0, d0, ds0, p0, q0, hargs, rfl, rfl, h0, r0⟩ := trodAll_cons hA
  obtain ⟨v1, vs1, d1, ds1, p1, q1, rfl, rfl, rfl, h1, r1⟩ := trodAll_cons r0
  obtain ⟨v2, vs2, d2, ds2, p2, q2, rfl, rfl, rfl, h2, r2⟩ := trodAll_cons r1
  obtain ⟨rfl, rfl, rfl⟩ := trodAll_nil r2
  obtain rfl : args = #[v0, v1, v2] := by cases args; simp_all
  obtain ⟨rfl, rfl⟩ := trodVars_none hV
  have lt0 : ∀ x ∈ p0, x.block < W.heap.size := by obtain ⟨m, hm⟩ := h0; exact DataW.trod_lt m _ _ _ hm
  have lt1 : ∀ x ∈ p1, x.block < W.heap.size := by obtain ⟨m, hm⟩ := h1; exact DataW.trod_lt m _ _ _ hm
  have lt2 : ∀ x ∈ p2, x.block < W.heap.size := by obtain ⟨m, hm⟩ := h2; exact DataW.trod_lt m _ _ _ hm
  clear hA0 hval0
  refine (walkSlotsOrder v0 v1 v2 W base (hval 0 23 v0 rfl rfl) (Reads.of h0) (hval 1 24 v1 rfl rfl) (Reads.of h1) (hval 2 3 v2 rfl rfl) (Reads.of h2)).mono fun e W' ⟨he, bel⟩ => ?_
  subst he
  exact ⟨_, rfl, _, _, _, [], _, [], hW', trodAll_mk1 (shut_bool Try.underlying4 _), (trodAll_cons_mk (Below.trod laidOut (by kernel_rfl) (of_decide_eq_true (by kernel_rfl)) h0 bel lt0) (trodAll_cons_mk (Below.trod laidOut (by kernel_rfl) (of_decide_eq_true (by kernel_rfl)) h1 bel lt1) (trodAll_cons_mk (Below.trod laidOut (by kernel_rfl) (of_decide_eq_true (by kernel_rfl)) h2 bel lt2) trodAll_mk0))), rfl, bel.frame _, fun h => by cases h⟩

theorem overSlotsOrder : Rows.slotsOrderRow.holds Try.pinned (OpenSpec.ofChange Rows.slotsOrderSpec) :=
  OpenClaim.holds_of_wide 7 Try.f7 rfl rfl rfl rfl rfl rfl rfl ⟨rfl, rfl, rfl, rfl, rfl⟩ rfl rfl rfl rfl rfl (by kernel_rfl) Try.func7 (by kernel_rfl)
    (of_decide_eq_true (by kernel_rfl)) (by unfold Func.isWrapper; first | (rw [if_pos (by decide +kernel)]; kernel_rfl) | (rw [if_neg (by decide +kernel)]; exact ⟨rfl, rfl⟩))
    (fun os started H enc _ => liftedSlotsOrder os started H enc)

/-- The statement. -/
theorem slotsOrder_holds : Rows.SlotsOrderSaid := overSlotsOrder
#print axioms slotsOrder_holds
end Go.Proofs.Ytkafffoaaklhiaa
