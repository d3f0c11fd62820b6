/-
  ChainOwn: whatever the offset and the key, changing what Items hands back does not change the chain, and a nil chain has no items, so the law returns true; the inputs read behind the call as they did. No conditions.
-/
import Derived.Test.YtdjjmglocdhnhaaChLaw
namespace Go.Proofs.Ytdjjmglocdhnhaa
open Go.RowKit Go.WideShapes Go.ChangeShapes
set_option linter.unusedVariables false
/-- what the chain's caller writes elsewhere leaves it as it is -/
theorem ChO.write {w0 w w1 w2 : World} {cb N g : Nat} {L : List It} (h : ChO w0 w cb N L) (hb : Below w.heap.size w w1) (hf : Fr (fun j => j = g) w1 w2) (hg : w.heap.size ≤ g) : ChO w0 w2 cb N L := by
  obtain ⟨R, h1, h2, h3⟩ := h
  have hlt := h1.lt
  exact ⟨R, (h1.below hb).frame hf (fun j hj e => by have := hlt j hj; omega), h2, (bel_trans h3 hb).trans ⟨hf.os, hf.tape, hf.output, hf.size, fun k hk => hf.block k (Nat.lt_of_lt_of_le hk (Nat.le_trans h3.size hb.size)) (fun e => by have := h3.size; omega)⟩⟩
theorem fr_set2 (w : World) (g i : Nat) (v : Value) : Fr (fun j => j = g) w (w.setCell ⟨g, i, none⟩ v) :=
  ⟨rfl, rfl, rfl, by simp [World.setCell], fun k hk hne => Below.heap_setCell _ _ _ _ hne⟩
theorem ownL (off : Int) (k : ByteArray) : adI [] 1 off k = [⟨1, off, k⟩] := rfl
theorem ownI (off : Int) (k : ByteArray) : itsI [⟨1, off, k⟩] 1 = [⟨1, off, k⟩] := rfl
theorem ownA (off : Int) (k : ByteArray) : AscI [⟨1, off, k⟩] := List.pairwise_singleton _ _
set_option maxRecDepth 100000 in
set_option maxHeartbeats 8000000 in
theorem ownlaw (off : Int) (key : ByteArray) (w : World) (hw : (Lit.int .i64 off).wf = true) (hk : key.size ≤ maxLen) :
    Calls Try.prog 5 #[.int .i64 off, .string key] w fun e w' => e = .returned (.bool true) ∧ Below w.heap.size w w' := by
  obtain ⟨k, hkk⟩ : ∃ k, cutK key = k := ⟨_, rfl⟩
  have hks : k.size ≤ 10 := by rw [← hkk]; exact cutK_size key
  have HW := Lib.hid hw
  unfold maxLen at hk
  rcases cut_cases key with ⟨h30, hcut⟩ | ⟨h30, hcut⟩
  all_goals
    rw [hcut] at hkk
    first
      | (have hb31 : (10 : Int) ≤ (key.size : Int) := by omega
         have hb37 : min (key.size : Int) 10 = 10 := by omega
         have hb39 : min key.size 10 = 10 := by omega)
      | (have hb31 : ¬ (10 : Int) < (key.size : Int) := by omega
         have hb32 : (if (10 : Int) < (key.size : Int) then (10 : Int) else (key.size : Int)) = (key.size : Int) := if_neg hb31
         have hb33 : decide ((10 : Int) < (key.size : Int)) = false := decide_eq_false hb31
         have hb34 : ¬ (key.size : Int) < 0 := by omega
         have hb35 : ¬ key.size < key.size := by omega
         have hb37 : min (key.size : Int) 10 = (key.size : Int) := by omega
         have hb39 : min key.size 10 = key.size := by omega)
    clear hcut h30 hw
    have HKK := Lib.hid hkk
    clear hkk
    go_enter Try.func5, Try.ntmps5
    go_wp2_with fail
    with_reducible refine (cho_new _).mono ?_
    rintro e w1 ⟨cb, rfl, c1⟩
    rw [HKK.out]
    have C1 := Lib.hid c1
    clear c1
    first | clear hb31 hb37 hb39 hb32 hb33 hb34 hb35 | clear hb31 hb37 hb39
    go_wp2_with fail
    with_reducible refine (cho_add cb 0 [] 1 off k w _ (by decide) HW.out (by unfold maxLen; omega) (by omega) AscI.nil C1.out).mono ?_
    rintro e w2 ⟨rfl, c2⟩
    rw [ownL] at c2
    have C2 := Lib.hid c2
    clear c2 C1
    go_wp2_with fail
    with_reducible refine (cho_items cb 1 [⟨1, off, k⟩] 1 w _ (by decide) (by simp) (ownA off k) C2.out).mono ?_
    rintro e w3 ⟨v, rfl, ho, hb3⟩
    rw [ownI] at ho
    obtain ⟨g, c, rfl, hg, hgl⟩ := World.ownsRow.form ho (by simp)
    have q0 := World.ownsRow.cellAt ho 0 (by simp)
    have q1 := World.ownsRow.cellAt ho 1 (by simp)
    have f0 := World.ownsRow.frozenAt ho 0
    have f1 := World.ownsRow.frozenAt ho 1
    simp only [List.flatMap_cons, List.flatMap_nil, itC2, List.append_nil, List.getElem?_cons_zero, List.getElem?_cons_succ] at q0 q1
    have HB3 := Lib.hid hb3
    have HG := Lib.hid hg
    clear ho hb3 hg
    go_wp2_with fail
    obtain ⟨w4, hw4⟩ : ∃ w4, (w3.setCell ⟨g, 1, none⟩ (.string ⟨#[111, 116, 104, 101, 114]⟩)).setCell ⟨g, 0, none⟩ (.int .i64 0) = w4 := ⟨_, rfl⟩
    have C4 := Lib.hid (show ChO w w4 cb 1 [⟨1, off, k⟩] from by
      rw [← hw4]
      exact C2.out.write HB3.out ((fr_set2 w3 g 1 _).trans (fr_set2 _ g 0 _) (fun j hj => .inl hj)) HG.out)
    rw [hw4]
    clear hw4 q0 q1 f0 f1 C2
    with_reducible refine (add7_nil 1 1 _ _).mono ?_
    rintro e w5 ⟨rfl, rfl⟩
    go_wp2_with fail
    with_reducible refine (cho_items cb 1 [⟨1, off, k⟩] 1 w _ (by decide) (by simp) (ownA off k) C4.out).mono ?_
    rintro e w6 ⟨v6, rfl, ho6, hb6⟩
    rw [ownI] at ho6
    obtain ⟨a6, c6, rfl, hv6, -⟩ := row_it2 (n := 1) rfl ho6
    have V6 := Lib.hid hv6
    have B6 := Lib.hid (bel_trans C4.out.bel hb6)
    clear ho6 hb6 hv6 C4
    go_wp2_with fail
    with_reducible refine (awake10 _).mono ?_
    rintro e w7 ⟨rfl, hb7⟩
    obtain ⟨g7, off7, rfl, hg7, r0, r1⟩ := (V6.out.below hb7 (Nat.le_refl _)).it2 0 _ rfl
    simp only [Nat.zero_mul, Nat.add_zero] at r0 r1
    have B7 := Lib.hid (bel_trans B6.out hb7)
    have t1 : (k.toList == k.toList) = true := by simp
    have t2 : (off == off) = true := by simp
    clear hb7 B6 V6
    go_wp2_with fail
    with_reducible refine (remove12_nil 1 1 _).mono ?_
    rintro e w8 ⟨rfl, rfl⟩
    go_wp2_with fail
    with_reducible refine (items8_nil 1 _).mono ?_
    rintro e w8 ⟨rfl, rfl⟩
    go_wp2_with fail
    with_reducible refine (drop9_nil 1 _).mono ?_
    rintro e w8 ⟨rfl, rfl⟩
    go_wp2_with fail
    with_reducible refine (seqs17_nil _).mono ?_
    rintro e w8 ⟨rfl, rfl⟩
    go_wp2_with fail
    go_ret
    exact ⟨rfl, B7.out⟩
set_option maxRecDepth 100000 in
theorem walkChainOwn (v0 v1 : Value) (w : World) (base : Nat)
    (o0 : Value.okWide Try.prog w .any base 3 v0) (r0 : Reads Try.prog w 3 v0.cells.toList)
    (o1 : Value.okWide Try.prog w .any base 9 v1) (r1 : Reads Try.prog w 9 v1.cells.toList) :
    Calls Try.prog 5 #[v0, v1] w fun e w' => e = .returned (.bool true) ∧ Below w.heap.size w w' := by
  obtain ⟨off, rfl, h1⟩ := arg_int Try.underlying3 o0 r0
  obtain ⟨key, rfl, h2⟩ := arg_string Try.underlying9 o1 r1
  exact ownlaw off key w h1 h2
set_option maxRecDepth 100000 in
theorem liftedChainOwn (os : Os) (started : os.Started) (H : Type) (enc : TypeId × Value → H) :
    ReturnsInHanded {} Try.checked os 5 .any (Rows.chainOwnSpec.pre6 enc Try.prog Try.f5 Rows.chainOwnRow.domain false) (Rows.chainOwnSpec.post enc Try.prog Try.f5 false true false false) := by
  refine returnsInHanded_of_change (C := Try.checked) own started (by kernel_rfl) Try.func5
    (ChangeSpec.witness6 (enc := enc) (C := Try.checked) false ⟨#[], #[.int .i64 0, .string ByteArray.empty], []⟩ 8 (by kernel_rfl) (by kernel_rfl) (by kernel_rfl) (by kernel_rfl)) ?_
  intro W base args ds gs before hval0 hW hcnd _
  have hval : ∀ (j : Nat) t v, Try.f5.params[j]? = some t → args[j]? = some v → Value.okWide Try.prog W .any base t v := hval0
  have hW' := hW
  obtain ⟨p, q, hA0, hV, rfl, hfz, hnd⟩ := hW
  have hA : DataW.TrodAll enc Try.prog W 0 (fun _ => true) true Try.f5.params.toList args.toList ds p := hA0
  rw [Try.params5] at hA hval
  obtain ⟨v0, vs0, d0, ds0, p0, q0, hargs, rfl, rfl, h0, r0⟩ := trodAll_cons hA
  obtain ⟨v1, vs1, d1, ds1, p1, q1, rfl, rfl, rfl, h1, r1⟩ := trodAll_cons r0
  obtain ⟨rfl, rfl, rfl⟩ := trodAll_nil r1
  obtain rfl : args = #[v0, v1] := by cases args; simp_all
  obtain ⟨rfl, rfl⟩ := trodVars_none hV
  have lt0 : ∀ x ∈ p0, x.block < W.heap.size := by obtain ⟨m, hm⟩ := h0; exact DataW.trod_lt m _ _ _ hm
  have lt1 : ∀ x ∈ p1, x.block < W.heap.size := by obtain ⟨m, hm⟩ := h1; exact DataW.trod_lt m _ _ _ hm
  clear hA0 hval0
  refine (walkChainOwn v0 v1 W base (hval 0 3 v0 rfl rfl) (Reads.of h0) (hval 1 9 v1 rfl rfl) (Reads.of h1)).mono fun e W' ⟨he, bel⟩ => ?_
  subst he
  exact ⟨_, rfl, _, _, _, [], _, [], hW', trodAll_mk1 (shut_bool Try.underlying4 _), (trodAll_cons_mk (Below.trod laidOut (by kernel_rfl) (of_decide_eq_true (by kernel_rfl)) h0 bel lt0) (trodAll_cons_mk (Below.trod laidOut (by kernel_rfl) (of_decide_eq_true (by kernel_rfl)) h1 bel lt1) trodAll_mk0)), rfl, bel.frame _, fun h => by cases h⟩

theorem overChainOwn : Rows.chainOwnRow.holds Try.pinned (OpenSpec.ofChange Rows.chainOwnSpec) :=
  OpenClaim.holds_of_wide 5 Try.f5 rfl rfl rfl rfl rfl rfl rfl ⟨rfl, rfl, rfl, rfl, rfl⟩ rfl rfl rfl rfl rfl (by kernel_rfl) Try.func5 (by kernel_rfl)
    (of_decide_eq_true (by kernel_rfl)) (by unfold Func.isWrapper; first | (rw [if_pos (by decide +kernel)]; kernel_rfl) | (rw [if_neg (by decide +kernel)]; exact ⟨rfl, rfl⟩))
    (fun os started H enc _ => liftedChainOwn os started H enc)

/-- The statement. -/
theorem chainOwn_holds : Rows.ChainOwnSaid := overChainOwn
#print axioms chainOwn_holds
end Go.Proofs.Ytdjjmglocdhnhaa
