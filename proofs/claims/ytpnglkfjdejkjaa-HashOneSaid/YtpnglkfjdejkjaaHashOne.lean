/-
  HashOne: two keys of up to 41 bytes that differ in exactly the last byte have different hashes, and equal ones equal hashes. No condition.
-/
import Derived.Test.YtpnglkfjdejkjaaHash
import Derived.Test.YtpnglkfjdejkjaaMem
import Derived.Deep.DeepCutAuto
namespace Go.Proofs.Ytpnglkfjdejkjaa
open Go.ChangeShapes Go.WideShapes Go.ChangeAt Go.RowKit
set_option linter.unusedVariables false
theorem u64_xor (a b : Int) (h1 : 0 ≤ a) (h2 : a < 18446744073709551616) (h3 : 0 ≤ b) (h4 : b < 18446744073709551616) : bits .xor .u64 a b = ((a.toNat ^^^ b.toNat : Nat) : Int) := by
  have hx : a.toNat ^^^ b.toNat < 2 ^ 64 := Nat.xor_lt_two_pow (by omega) (by omega)
  unfold bits
  simp only [BitVec.toNat_xor, BitVec.toNat_ofInt]
  have ea : (a % ((2 ^ IntKind.u64.bits : Nat) : Int)).toNat = a.toNat := by
    show (a % ((2 ^ 64 : Nat) : Int)).toNat = a.toNat
    rw [Int.emod_eq_of_lt h1 (by omega)]
  have eb : (b % ((2 ^ IntKind.u64.bits : Nat) : Int)).toNat = b.toNat := by
    show (b % ((2 ^ 64 : Nat) : Int)).toNat = b.toNat
    rw [Int.emod_eq_of_lt h3 (by omega)]
  rw [ea, eb]
  exact IntWalk.u64_in _ ⟨by omega, by omega⟩
theorem xorshift_inj (x y : Nat) (hx : x < 2 ^ 64) (hy : y < 2 ^ 64) (h : x ^^^ x / 8589934592 = y ^^^ y / 8589934592) : x = y := by
  have key : ∀ x : Nat, x < 2 ^ 64 → (x ^^^ x / 8589934592) ^^^ (x ^^^ x / 8589934592) / 8589934592 = x := by
    intro x hx
    have e : ∀ z : Nat, z / 8589934592 = z >>> 33 := fun z => by rw [Nat.shiftRight_eq_div_pow]
    rw [e, e, Nat.shiftRight_xor_distrib, ← Nat.shiftRight_add]
    rw [show x >>> (33 + 33) = 0 from by rw [Nat.shiftRight_eq_div_pow]; omega]
    rw [Nat.xor_zero, Nat.xor_assoc, Nat.xor_self, Nat.xor_zero]
  rw [← key x hx, ← key y hy, h]
theorem hl_nat (h : Nat) (hh : h < 2 ^ 64) : hl (h : Int) = ((h ^^^ h / 8589934592 : Nat) : Int) := by
  unfold hl
  rw [u64_xor _ _ (by omega) (by omega) (by omega) (by omega)]
  congr 1
theorem hl_inj (x y : Int) (hx : 0 ≤ x ∧ x < 18446744073709551616) (hy : 0 ≤ y ∧ y < 18446744073709551616) (h : hl x = hl y) : x = y := by
  obtain ⟨x, rfl⟩ := Int.eq_ofNat_of_zero_le hx.1
  obtain ⟨y, rfl⟩ := Int.eq_ofNat_of_zero_le hy.1
  rw [hl_nat x (by omega), hl_nat y (by omega)] at h
  have := xorshift_inj x y (by omega) (by omega) (by exact_mod_cast h)
  rw [this]
theorem hl_rng (x : Int) (hx : 0 ≤ x ∧ x < 18446744073709551616) : 0 ≤ hl x ∧ hl x < 18446744073709551616 := by
  obtain ⟨x, rfl⟩ := Int.eq_ofNat_of_zero_le hx.1
  rw [hl_nat x (by omega)]
  have : x ^^^ x / 8589934592 < 2 ^ 64 := Nat.xor_lt_two_pow (by omega) (by omega)
  omega
theorem wrap_u64 (n : Int) : IntKind.u64.wrap n = n % 18446744073709551616 := by
  simp [IntKind.wrap, IntKind.bits, IntKind.signed]
theorem mul_inj (m i x y : Int) (hmi : m * i % 18446744073709551616 = 1) (hx : 0 ≤ x ∧ x < 18446744073709551616) (hy : 0 ≤ y ∧ y < 18446744073709551616)
    (h : IntKind.u64.wrap (x * m) = IntKind.u64.wrap (y * m)) : x = y := by
  rw [wrap_u64, wrap_u64] at h
  have key : ∀ x : Int, 0 ≤ x ∧ x < 18446744073709551616 → (x * m % 18446744073709551616) * i % 18446744073709551616 = x := by
    intro x hx
    rw [Int.mul_emod, Int.emod_emod, ← Int.mul_emod, Int.mul_assoc, Int.mul_emod, hmi, Int.mul_one, Int.emod_emod]
    exact Int.emod_eq_of_lt hx.1 hx.2
  rw [← key x hx, ← key y hy, h]
theorem hfin_inj (x y : Int) (hx : 0 ≤ x ∧ x < 18446744073709551616) (hy : 0 ≤ y ∧ y < 18446744073709551616) (h : hfin x = hfin y) : x = y := by
  have wr : ∀ z, 0 ≤ IntKind.u64.wrap z ∧ IntKind.u64.wrap z < 18446744073709551616 := fun z => by rw [wrap_u64]; omega
  unfold hfin at h
  have h1 := hl_inj _ _ (wr _) (wr _) h
  unfold hm at h1
  have h2 := mul_inj 14181476777654086739 11291846944257947611 _ _ (by decide +kernel) (hl_rng _ (wr _)) (hl_rng _ (wr _)) h1
  have h3 := hl_inj _ _ (wr _) (wr _) h2
  have h4 := mul_inj 18397679294719823053 5725274745694666757 _ _ (by decide +kernel) (hl_rng _ hx) (hl_rng _ hy) h3
  exact hl_inj _ _ hx hy h4
theorem hstep_rng (h x : Int) : 0 ≤ hstep h x ∧ hstep h x < 18446744073709551616 := by
  unfold hstep; rw [wrap_u64]; omega
theorem hf_rng (zs : List Int) (k : Nat) : 0 ≤ hf zs k ∧ hf zs k < 18446744073709551616 := by
  cases k with
  | zero => unfold hf hinit; omega
  | succ k => exact hstep_rng _ _
theorem hf_take (xs ys : List Int) (k : Nat) (h : ∀ i, i < k → xs[i]?.getD 0 = ys[i]?.getD 0) : hf xs k = hf ys k := by
  induction k with
  | zero => rfl
  | succ k ih => unfold hf; rw [ih fun i hi => h i (by omega), h k (by omega)]
theorem hstep_inj (h x y : Int) (hh : 0 ≤ h ∧ h < 18446744073709551616) (hx : 0 ≤ x ∧ x ≤ 255) (hy : 0 ≤ y ∧ y ≤ 255) (e : hstep h x = hstep h y) : x = y := by
  obtain ⟨h, rfl⟩ := Int.eq_ofNat_of_zero_le hh.1
  obtain ⟨x, rfl⟩ := Int.eq_ofNat_of_zero_le hx.1
  obtain ⟨y, rfl⟩ := Int.eq_ofNat_of_zero_le hy.1
  have xr : ∀ z : Nat, z ≤ 255 → bits BinOp.xor IntKind.u64 (h : Int) (IntKind.u64.wrap (z : Int)) = ((h ^^^ z : Nat) : Int) ∧ h ^^^ z < 2 ^ 64 := by
    intro z hz
    refine ⟨?_, Nat.xor_lt_two_pow (by omega) (by omega)⟩
    rw [wrap_u64, Int.emod_eq_of_lt (by omega) (by omega), u64_xor _ _ (by omega) (by omega) (by omega) (by omega)]
    congr 1
  unfold hstep at e
  obtain ⟨e1, l1⟩ := xr x (by omega)
  obtain ⟨e2, l2⟩ := xr y (by omega)
  rw [e1, e2] at e
  have := mul_inj 1099511628211 14886173955864302971 _ _ (by decide +kernel) ⟨by omega, by omega⟩ ⟨by omega, by omega⟩ e
  have e3 : h ^^^ x = h ^^^ y := by exact_mod_cast this
  have e4 : h ^^^ (h ^^^ x) = h ^^^ (h ^^^ y) := by rw [e3]
  rw [← Nat.xor_assoc, ← Nat.xor_assoc, Nat.xor_self, Nat.zero_xor, Nat.zero_xor] at e4
  rw [e4]
/-- the plain law -/
theorem one_law (zs : List Int) (m : Nat) (hm : m ≤ zs.length) (x y : Int) (hx : 0 ≤ x ∧ x ≤ 255) (hy : 0 ≤ y ∧ y ≤ 255) :
    (hfin (hf (zs.take m ++ [x]) (m + 1)) == hfin (hf (zs.take m ++ [y]) (m + 1))) = (x == y) := by
  have hl : (zs.take m).length = m := by simp; omega
  have e : ∀ v : Int, hf (zs.take m ++ [v]) (m + 1) = hstep (hf zs m) v := by
    intro v
    show hstep (hf (zs.take m ++ [v]) m) ((zs.take m ++ [v])[m]?.getD 0) = _
    rw [hf_take (zs.take m ++ [v]) zs m (fun i hi => by rw [List.getElem?_append_left (by omega), List.getElem?_take, if_pos hi]), List.getElem?_append_right (by omega), hl]
    simp
  rw [e, e, Bool.eq_iff_iff, beq_iff_eq, beq_iff_eq]
  constructor
  · intro h
    exact hstep_inj _ _ _ (hf_rng _ _) hx hy (hfin_inj _ _ (hstep_rng _ _) (hstep_rng _ _) h)
  · rintro rfl; rfl
theorem u8info : (Try.prog.info? 5).map (fun i => (i.zero, i.size, i.bytes)) = some (some (.int .u8 0), 1, 1) := by kernel_rfl
theorem IsRow.src {k : IntKind} {w : World} {a : Option Addr} {len cap m : Nat} {zs : List Int} (h : IsRow k w a len cap zs) (hm : m ≤ len) : Src w 1 (.slice a m cap) m ((zs.take m).map (Value.int k)) ∧ m ≤ zs.length := by
  have he := h.elems
  rcases h with ⟨rfl, rfl, rfl, rfl⟩ | ⟨x, rfl, h1, h2, h3, h4, h5⟩
  · exact ⟨(he.le hm).src (by simpa using hm) (fun _ => ⟨by omega, rfl⟩), by simpa using hm⟩
  · exact ⟨(he.le hm).src (by omega) (fun e => by cases e), by omega⟩
set_option maxHeartbeats 1000000 in
theorem walkHashOne (a : Option Addr) (len cap : Nat) (zs : List Int) (x y : Int) (w : World) (hr : IsRow .u8 w a len cap zs) (wx : (Lit.int .u8 x).wf = true) (wy : (Lit.int .u8 y).wf = true) :
    Calls Try.prog 5 #[.slice a len cap, .int .u8 x, .int .u8 y] w fun e w' => e = .returned (.bool true) ∧ Below w.heap.size w w' := by
  have hb := hr.len_le
  have hx := bounds_u8 wx
  have hy := bounds_u8 wy
  have hlaw := Lib.hid (fun m h => one_law zs m h x y hx hy)
  have hsrc := Lib.hid (fun m (h : m ≤ len) => hr.src h)
  obtain ⟨i0, hi, hz0, hz1, hz2⟩ := info_parts u8info
  have I1 := Lib.hid hi; have I2 := Lib.hid hz0; have I3 := Lib.hid hz1; have I4 := Lib.hid hz2
  clear hr wx wy hx hy hi hz0 hz1 hz2
  obtain ⟨hb1, hb2⟩ := hb
  go_enter Try.func5, Try.ntmps5
  go_upto_region 1 with fail
  go_cut [0] (fun s wx => ∃ m : Nat, s = .slice a m cap ∧ m ≤ len ∧ m ≤ 40 ∧ w = wx)
  case first =>
    go_wp2_with fail
    all_goals go_meet
    · exact ⟨40, rfl, by omega, by omega, rfl⟩
    · exact ⟨len, rfl, by omega, by omega, rfl⟩
  case rest =>
    obtain ⟨m, rfl, hm1, hm2, rfl⟩ := hcut
    obtain ⟨hs, hmz⟩ := hsrc.out m hm1
    go_wp2_with (at_builtin; refine Stop.out ?_)
    refine Stop.of (wpList_app rfl _ _ 22 rfl w.heap.size 5 i0 (.int .u8 0) 1 1 Try.underlying22 I1.out I2.out I3.out I4.out rfl (by decide) (.slice none 0 0) 0 [] rfl (World.ownsRow_nil _ _ _ _) (.slice a m cap) _ _ rfl hs (ints_one _ _) (by unfold maxLen; omega) (by omega) (Nat.le_refl _) ?_)
    intro v1 w1 hown1 hg1
    have hb1 := (Below.refl w.heap.size w).grown hg1 (Nat.le_refl _) (fun k hk => by cases hk)
    have O1 := Lib.hid hown1
    clear hown1 hg1 hs
    go_wp2_with (at_builtin; refine Stop.out ?_)
    refine Stop.of (wpList_app rfl _ _ 22 rfl w.heap.size 5 i0 (.int .u8 0) 1 1 Try.underlying22 I1.out I2.out I3.out I4.out rfl (by decide) v1 (0 + m) _ rfl (O1.out.alloc _) (.slice (some ⟨w1.heap.size, 0, none⟩) 1 1) 1 [.int .u8 x] rfl (src_lit #[.int .u8 x] (0, 0) (heap_alloc_new w1 _) rfl) (ints_one .u8 [x]) (by unfold maxLen; omega) (by omega) (Nat.le_trans hb1.size (by simp)) ?_)
    intro v2 w2 hown2 hg2
    have hb2 := (hb1.alloc hb1.size (.cells #[.int .u8 x] 5)).grown hg2 (Nat.le_trans hb1.size (by simp)) (fun k hk => (O1.out.lt k hk).1)
    rw [show ([] ++ List.map (Value.int IntKind.u8) (List.take m zs) ++ [Value.int IntKind.u8 x]) = (zs.take m ++ [x]).map (Value.int IntKind.u8) from by simp, Nat.zero_add] at hown2
    have O2 := Lib.hid hown2
    clear hown2 hg2 hb1 O1
    obtain ⟨a2, c2, rfl, he2, hc2, hm2'⟩ := ownsRow_elems O2.out
    clear O2
    unfold maxLen at hm2'
    have E2 := Lib.hid he2
    clear he2
    go_wp2_with (at_builtin; refine Stop.out ?_)
    have hs := ((hsrc.out m hm1).1).below hb2 (Nat.le_refl _)
    refine Stop.of (wpList_app rfl _ _ 22 rfl w2.heap.size 5 i0 (.int .u8 0) 1 1 Try.underlying22 I1.out I2.out I3.out I4.out rfl (by decide) (.slice none 0 0) 0 [] rfl (World.ownsRow_nil _ _ _ _) (.slice a m cap) _ _ rfl hs (ints_one _ _) (by unfold maxLen; omega) (by omega) (Nat.le_refl _) ?_)
    intro v3 w3 hown3 hg3
    have hb3 := (Below.refl w2.heap.size w2).grown hg3 (Nat.le_refl _) (fun k hk => by cases hk)
    have O3 := Lib.hid hown3
    clear hown3 hg3 hs
    go_wp2_with (at_builtin; refine Stop.out ?_)
    refine Stop.of (wpList_app rfl _ _ 22 rfl w2.heap.size 5 i0 (.int .u8 0) 1 1 Try.underlying22 I1.out I2.out I3.out I4.out rfl (by decide) v3 (0 + m) _ rfl (O3.out.alloc _) (.slice (some ⟨w3.heap.size, 0, none⟩) 1 1) 1 [.int .u8 y] rfl (src_lit #[.int .u8 y] (0, 0) (heap_alloc_new w3 _) rfl) (ints_one .u8 [y]) (by unfold maxLen; omega) (by omega) (Nat.le_trans hb3.size (by simp)) ?_)
    intro v4 w4 hown4 hg4
    have hb4 := (hb3.alloc hb3.size (.cells #[.int .u8 y] 5)).grown hg4 (Nat.le_trans hb3.size (by simp)) (fun k hk => (O3.out.lt k hk).1)
    rw [show ([] ++ List.map (Value.int IntKind.u8) (List.take m zs) ++ [Value.int IntKind.u8 y]) = (zs.take m ++ [y]).map (Value.int IntKind.u8) from by simp, Nat.zero_add] at hown4
    obtain ⟨a4, c4, rfl, he4, hc4, hm4⟩ := ownsRow_elems hown4
    unfold maxLen at hm4
    have E4 := Lib.hid he4
    clear he4 hown4 hg4 hb3 O3
    have hbw := hb2.trans (hb4.mono hb2.size)
    have hlw := Lib.hid (hlaw.out m hmz)
    clear hlaw hsrc
    have f8 := fun W h => hash8 a2 (m + 1) c2 (zs.take m ++ [x]) W (by omega) h
    have g8 := fun W h => hash8 a4 (m + 1) c4 (zs.take m ++ [y]) W (by omega) h
    have hl2 := hlw.out
    clear hlw
    generalize hfin (hf (zs.take m ++ [x]) (m + 1)) = X at *
    generalize hfin (hf (zs.take m ++ [y]) (m + 1)) = Y at *
    have F8 := Lib.hid f8; have G8 := Lib.hid g8; have L := Lib.hid hl2
    clear f8 g8 hl2
    go_wp2_with fail
    refine (awake7 _).mono ?_
    rintro e w5 ⟨rfl, hb5⟩
    have hbw5 := hbw.trans (hb5.mono hbw.size)
    go_wp2_with fail
    with_reducible refine (F8.out _ ((E2.out.below hb4 (Nat.le_refl _)).below hb5 (Nat.le_refl _))).mono ?_
    rintro e w6 ⟨rfl, rfl⟩
    go_wp2_with fail
    with_reducible refine (G8.out _ (E4.out.below hb5 (Nat.le_refl _))).mono ?_
    rintro e w6 ⟨rfl, rfl⟩
    have l := L.out
    go_wp2
    go_ret
    exact ⟨rfl, hbw5⟩
set_option maxRecDepth 100000 in
theorem liftedHashOne (os : Os) (started : os.Started) (H : Type) (enc : TypeId × Value → H) :
    ReturnsInHanded {} Try.checked os 5 .any (Rows.hashOneSpec.pre6 enc Try.prog Try.f5 Rows.hashOneRow.domain false) (Rows.hashOneSpec.post enc Try.prog Try.f5 false true false false) := by
  refine returnsInHanded_of_change (C := Try.checked) own started (by kernel_rfl) Try.func5
    (ChangeSpec.witness6 (enc := enc) (C := Try.checked) false ⟨#[], #[.slice none 0 0, .int .u8 0, .int .u8 0], []⟩ 8 (by kernel_rfl) (by kernel_rfl) (by kernel_rfl) (by kernel_rfl)) ?_
  intro W base args ds gs before hval0 hW hcnd _
  have hval : ∀ (j : Nat) t v, Try.f5.params[j]? = some t → args[j]? = some v → Value.okWide Try.prog W .any base t v := hval0
  have hW' := hW
  obtain ⟨p, q, hA0, hV, rfl, hfz, hnd⟩ := hW
  have hA : DataW.TrodAll enc Try.prog W 0 (fun _ => true) true Try.f5.params.toList args.toList ds p := hA0
  rw [Try.params5] at hA hval
  obtain ⟨v0, vs0, d0, ds0, p0, q0, hargs, rfl, rfl, h0, r0⟩ := trodAll_cons hA
  obtain ⟨v1, vs1, d1, ds1, p1, q1, rfl, rfl, rfl, h1, r1⟩ := trodAll_cons r0
  obtain ⟨v2, vs2, d2, ds2, p2, q2, rfl, rfl, rfl, h2, r2⟩ := trodAll_cons r1
  obtain ⟨rfl, rfl, rfl⟩ := trodAll_nil r2
  obtain rfl : args = #[v0, v1, v2] := by cases args; simp_all
  obtain ⟨rfl, rfl⟩ := trodVars_none hV
  obtain ⟨a0, len0, cap0, rfl⟩ := okWide_slice Try.underlying22 (hval 0 22 v0 rfl rfl)
  have k0 := h0
  have lt0 : ∀ x ∈ p0, x.block < W.heap.size := by obtain ⟨m, hm⟩ := k0; exact DataW.trod_lt m _ _ _ hm
  obtain ⟨z0, w0⟩ : ∃ zs, IsRow .u8 W a0 len0 cap0 zs := by
    obtain ⟨fuel, hf⟩ := h0
    rcases open_ints Try.underlying22 Try.underlying5 (by kernel_rfl) hf with ⟨hcs, _⟩ | ⟨x, l, c, zs, hcs, _, hl, hm, hz, _, hcell, hwz⟩
    · simp [Value.cells] at hcs
      obtain ⟨rfl, rfl, rfl⟩ := hcs
      exact ⟨[], .inl ⟨rfl, rfl, rfl, rfl⟩⟩
    · simp [Value.cells] at hcs
      obtain ⟨rfl, rfl, rfl⟩ := hcs
      exact ⟨zs, .inr ⟨_, rfl, hl, hm, by simpa using hz, hcell, hwz⟩⟩
  obtain ⟨a1, rfl, rfl, rfl, w1⟩ := open_int Try.underlying5 (hval 1 5 v1 rfl rfl) h1
  obtain ⟨a2, rfl, rfl, rfl, w2⟩ := open_int Try.underlying5 (hval 2 5 v2 rfl rfl) h2
  clear hA0 hval0
  refine (walkHashOne a0 len0 cap0 z0 a1 a2 W w0 w1 w2).mono fun e W' ⟨he, bel⟩ => ?_
  subst he
  exact ⟨_, rfl, _, _, _, [], _, [], hW', trodAll_mk1 (shut_bool Try.underlying4 _), (trodAll_cons_mk (Below.trod laidOut (by kernel_rfl) (of_decide_eq_true (by kernel_rfl)) k0 bel lt0) (trodAll_cons_mk (shut_int Try.underlying5 w1) (trodAll_cons_mk (shut_int Try.underlying5 w2) trodAll_mk0))), rfl, bel.frame _, fun h => by cases h⟩

theorem overHashOne : Rows.hashOneRow.holds Try.pinned (OpenSpec.ofChange Rows.hashOneSpec) :=
  OpenClaim.holds_of_wide 5 Try.f5 rfl rfl rfl rfl rfl rfl rfl ⟨rfl, rfl, rfl, rfl, rfl⟩ rfl rfl rfl rfl rfl (by kernel_rfl) Try.func5 (by kernel_rfl)
    (of_decide_eq_true (by kernel_rfl)) (by unfold Func.isWrapper; first | (rw [if_pos (by decide +kernel)]; kernel_rfl) | (rw [if_neg (by decide +kernel)]; exact ⟨rfl, rfl⟩))
    (fun os started H enc _ => liftedHashOne os started H enc)

/-- The statement. -/
theorem hashOne_holds : Rows.HashOneSaid := overHashOne
#print axioms hashOne_holds
end Go.Proofs.Ytpnglkfjdejkjaa
