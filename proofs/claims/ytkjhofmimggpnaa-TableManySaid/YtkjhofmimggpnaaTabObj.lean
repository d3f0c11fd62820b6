/-
  The table as an object: its calls, and Awake, name.
-/
import Derived.Test.YtkjhofmimggpnaaTabDel
namespace Go.Proofs.Ytkjhofmimggpnaa
open Go.RowKit
set_option linter.unusedVariables false
/-- the table lies in memory newer than w0, of which nothing has changed -/
def Tob (w0 w : World) (tb : Nat) (T : Tab) : Prop := ∃ vn vo, Tb w tb vn vo T ∧ TI T ∧ (∀ j, tfoot tb vn vo j → w0.heap.size ≤ j) ∧ Below w0.heap.size w0 w
theorem Tob.ti {w0 w : World} {tb : Nat} {T : Tab} (h : Tob w0 w tb T) : TI T := by obtain ⟨_, _, _, h, _⟩ := h; exact h
theorem Tob.bel {w0 w : World} {tb : Nat} {T : Tab} (h : Tob w0 w tb T) : Below w0.heap.size w0 w := by obtain ⟨_, _, _, _, _, h⟩ := h; exact h
theorem Tob.below {w0 w w' : World} {tb : Nat} {T : Tab} (h : Tob w0 w tb T) (hb : Below w.heap.size w w') : Tob w0 w' tb T := by
  obtain ⟨vn, vo, h1, h2, h3, h4⟩ := h
  exact ⟨vn, vo, h1.below hb, h2, h3, bel_trans h4 hb⟩
theorem Tob.step {w0 w w' : World} {tb : Nat} {vn vo vn' vo' : Value} {T' : Tab} (h3 : ∀ j, tfoot tb vn vo j → w0.heap.size ≤ j) (h4 : Below w0.heap.size w0 w) (st : St w w' tb vn vo vn' vo') (k : Tb w' tb vn' vo' T') (ti : TI T') : Tob w0 w' tb T' := by
  refine ⟨vn', vo', k, ti, fun j hj => ?_, Fr.below h4 st.fr h4.size h3⟩
  have := h4.size
  rcases st.own j hj with h | h
  · exact h3 j h
  · omega
theorem set_ob (tb : Nat) (T : Tab) (k : ByteArray) (e : Ent) (w0 w : World) (h : Tob w0 w tb T) (hk : k.size ≤ 9223372036854775807) (hs : T.tot ≤ 1000000) :
    Calls Try.prog 9 #[.pointer (some ⟨tb, 0, none⟩), .string k, entV e] w fun e' w' => e' = .returned (.tuple #[]) ∧ ∃ T', Tob w0 w' tb T' ∧ SetI T T' k e := by
  obtain ⟨vn, vo, h1, h2, h3, h4⟩ := h
  refine (set9 tb vn vo T k e w h1 h2 hk hs).mono ?_
  rintro e' w' ⟨rfl, vn', vo', T', t, st, si⟩
  exact ⟨rfl, T', .step h3 h4 st t si.ti, si⟩
theorem get_ob (tb : Nat) (T : Tab) (k : ByteArray) (w0 w : World) (h : Tob w0 w tb T) (hk : k.size ≤ 9223372036854775807) :
    Calls Try.prog 10 #[.pointer (some ⟨tb, 0, none⟩), .string k] w fun e' w' => ∃ b x T', e' = .returned (.tuple #[entV x, .bool b]) ∧ Tob w0 w' tb T' ∧ GetI T T' k b x := by
  obtain ⟨vn, vo, h1, h2, h3, h4⟩ := h
  refine (get10 tb vn vo T k w h1 h2 hk).mono ?_
  rintro e' w' ⟨b, x, vo', T', rfl, t, st, si⟩
  exact ⟨b, x, T', rfl, .step h3 h4 st t si.ti, si⟩
/-- .. and what was laid since stays, and may be written -/
theorem get_obk (tb : Nat) (T : Tab) (k : ByteArray) (w0 w w1 : World) (h : Tob w0 w tb T) (hb : Below w.heap.size w w1) (hk : k.size ≤ 9223372036854775807) :
    Calls Try.prog 10 #[.pointer (some ⟨tb, 0, none⟩), .string k] w1 fun e' w' => ∃ b x T', e' = .returned (.tuple #[entV x, .bool b]) ∧ (Tob w0 w' tb T' ∧ (∀ j, w.heap.size ≤ j → j < w1.heap.size → w'.heap[j]? = w1.heap[j]?) ∧ ∀ W, Fr (fun j => w.heap.size ≤ j ∧ j < w1.heap.size) w' W → Tob w0 W tb T') ∧ GetI T T' k b x := by
  obtain ⟨vn, vo, h1, h2, h3, h4⟩ := h
  refine (get10 tb vn vo T k w1 (h1.below hb) h2 hk).mono ?_
  rintro e' w' ⟨b, x, vo', T', rfl, t, st, si⟩
  have hs0 := h4.size
  have hs1 := hb.size
  refine ⟨b, x, T', rfl, ⟨.step h3 (bel_trans h4 hb) st t si.ti, fun j hj hj1 => st.fr.block j hj1 (fun hf => ?_), fun W hW => ⟨vn, vo', t.frame hW (fun j hj hS => ?_), si.ti, fun j hj => ?_, ?_⟩⟩, si⟩
  · have := h1.lt j hf
    omega
  · rcases st.own j hj with hf | hf
    · have := h1.lt j hf; omega
    · omega
  · rcases st.own j hj with hf | hf
    · exact h3 j hf
    · omega
  · exact Fr.below (Fr.below (bel_trans h4 hb) st.fr (by omega) h3) hW (by have := st.fr.size; omega) (fun j hj => by omega)
theorem del_ob (tb : Nat) (T : Tab) (k : ByteArray) (w0 w : World) (h : Tob w0 w tb T) (hk : k.size ≤ 9223372036854775807) :
    Calls Try.prog 13 #[.pointer (some ⟨tb, 0, none⟩), .string k] w fun e' w' => ∃ b T', e' = .returned (.bool b) ∧ Tob w0 w' tb T' ∧ DelI T T' k b := by
  obtain ⟨vn, vo, h1, h2, h3, h4⟩ := h
  refine (del13 tb vn vo T k w h1 h2 hk).mono ?_
  rintro e' w' ⟨b, vo', T', rfl, t, st, si⟩
  exact ⟨b, T', rfl, .step h3 h4 st t si.ti, si⟩
theorem len_ob (tb : Nat) (T : Tab) (w0 w : World) (h : Tob w0 w tb T) :
    Calls Try.prog 15 #[.pointer (some ⟨tb, 0, none⟩)] w fun e' w' => e' = .returned (.int .i64 (T.tot : Int)) ∧ ∃ m, w' = w.drewN m := by
  obtain ⟨vn, vo, h1, h2, h3, h4⟩ := h
  exact len15 tb vn vo T w h1 h2.len_le
theorem places_ob (tb : Nat) (T : Tab) (w0 w : World) (h : Tob w0 w tb T) :
    Calls Try.prog 14 #[.pointer (some ⟨tb, 0, none⟩)] w fun e' w' => e' = .returned (.int .i64 ((2 ^ T.nb : Nat) : Int)) ∧ w = w' := by
  obtain ⟨vn, vo, h1, h2, h3, h4⟩ := h
  exact places14 tb vn vo T w h1 h2
theorem work_ob (tb : Nat) (T : Tab) (w0 w : World) (h : Tob w0 w tb T) :
    Calls Try.prog 16 #[.pointer (some ⟨tb, 0, none⟩)] w fun e' w' => e' = .returned (.int .i64 (T.work : Int)) ∧ w = w' := by
  obtain ⟨vn, vo, h1, h2, h3, h4⟩ := h
  exact work16 tb vn vo T w h1
theorem new_ob (w : World) : Calls Try.prog 8 #[] w fun e w' => ∃ tb T, e = .returned (.pointer (some ⟨tb, 0, none⟩)) ∧ Tob w w' tb T ∧ T.tot = 0 ∧ ∀ k e, ¬ Has T k e := by
  refine (new8 w).mono ?_
  rintro e w' ⟨tb, vn, T, rfl, t, ti, _, h1, h2, _, h4, h5, h6⟩
  exact ⟨tb, T, rfl, ⟨vn, _, t, ti, h6, ⟨h5.os, h5.tape, h5.output, h5.size, fun k hk => h5.block k hk (fun f => f)⟩⟩, by unfold Tab.tot; omega, h4⟩
set_option maxRecDepth 100000 in
set_option maxHeartbeats 4000000 in
theorem awake11 (w : World) : Calls Try.prog 11 #[] w fun e w' => e = .returned (.bool true) ∧ Below w.heap.size w w' := by
  have hka : (⟨#[97]⟩ : ByteArray).size ≤ 9223372036854775807 := by decide
  go_enter Try.func11, Try.ntmps11
  go_wp2_with fail
  with_reducible refine (new_ob _).mono ?_
  rintro e w1 ⟨tb, T1, rfl, o1, n1, m1⟩
  have O1 := Lib.hid o1
  have M1 := Lib.hid m1
  clear o1 m1
  go_wp2_with fail
  with_reducible refine (set_ob tb T1 ⟨#[97]⟩ ⟨3, 0, 0, 0, false⟩ w w1 O1.out hka (by omega)).mono ?_
  rintro e w2 ⟨rfl, T2, o2, s2⟩
  have O2 := Lib.hid o2
  have S2 := Lib.hid s2
  clear o2 s2
  go_wp2_with fail
  with_reducible refine (get_ob tb T2 ⟨#[97]⟩ w w2 O2.out hka).mono ?_
  rintro e w3 ⟨b, x, T3, rfl, o3, g3⟩
  have hT2 : T2.tot = 1 := by
    rcases S2.out.tot with ⟨⟨e0, h⟩, _⟩ | ⟨_, h⟩
    · exact absurd h (M1.out _ _)
    · omega
  have hh2 : Has T2 ⟨#[97]⟩ ⟨3, 0, 0, 0, false⟩ := (S2.out.has _ _).2 (.inl ⟨rfl, rfl⟩)
  have hb : b = true := by
    cases b with
    | true => rfl
    | false => exact absurd hh2 ((g3.miss rfl).1 _)
  subst hb
  have hx := (S2.out.has _ _).1 (g3.hit rfl)
  have hx : x = ⟨3, 0, 0, 0, false⟩ := by
    rcases hx with h | h
    · exact h.2
    · exact absurd rfl h.1
  subst hx
  have O3 := Lib.hid (o3.below ((Below.refl _ _).alloc (Nat.le_refl _) (.cells #[.int .i64 3, .int .i64 0, .int .i64 0, .int .i64 0, .bool false] 27)))
  have G3 := Lib.hid g3
  have hT3 : T3.tot = 1 := g3.tot.trans hT2
  have HH2 := Lib.hid hh2
  clear o3 g3 hh2 hT2
  go_wp2_with fail
  with_reducible refine (len_ob tb T3 w _ O3.out).mono ?_
  rintro e w4 ⟨rfl, m4, rfl⟩
  have O4 := Lib.hid (O3.out.below (below_drewN (Below.refl _ _) m4))
  generalize (World.drewN _ m4) = w4 at *
  rw [hT3]
  go_wp2_with fail
  with_reducible refine (places_ob tb T3 w _ O4.out).mono ?_
  rintro e w5 ⟨rfl, rfl⟩
  have h8 : (((2 ^ T3.nb : Nat) : Int) ≥ 8) := by
    have : 2 ^ 3 ≤ 2 ^ T3.nb := Nat.pow_le_pow_right (by omega) O4.out.ti.n3
    omega
  generalize ((2 ^ T3.nb : Nat) : Int) = pp at *
  go_wp2_with fail
  with_reducible refine (del_ob tb T3 _ w _ O4.out hka).mono ?_
  rintro e w6 ⟨b6, T6, rfl, o6, d6⟩
  have hb6 : b6 = true := d6.hit.2 ⟨_, (G3.out.has _ _).2 HH2.out⟩
  subst hb6
  have O6 := Lib.hid o6
  have D6 := Lib.hid d6
  clear o6 d6
  go_wp2_with fail
  with_reducible refine (del_ob tb T6 _ w _ O6.out hka).mono ?_
  rintro e w7 ⟨b7, T7, rfl, o7, d7⟩
  have hb7 : b7 = false := by
    cases b7 with
    | false => rfl
    | true =>
      obtain ⟨e, he⟩ := d7.hit.1 rfl
      exact absurd rfl ((D6.out.has _ _).1 he).1
  subst hb7
  have O7 := Lib.hid o7
  clear o7 d7
  go_wp2_with fail
  go_ret
  exact ⟨rfl, O7.out.bel⟩
def nameN (d : Nat) : ByteArray := ⟨#[UInt8.ofNat (48 + d / 100), UInt8.ofNat (48 + d / 10 % 10), UInt8.ofNat (48 + d % 10)]⟩
def nameD (k : Int) : Nat := ((k.tmod 1000 + 1000) % 1000).toNat
theorem nameD_lt (k : Int) : nameD k < 1000 := by unfold nameD; omega
theorem nameD_self (k : Nat) (h : k < 1000) : nameD (k : Int) = k := by
  unfold nameD
  rw [Int.tmod_eq_emod_of_nonneg (by omega)]
  omega
theorem nameN_size (d : Nat) : (nameN d).size = 3 := rfl
theorem nameN_inj {a b : Nat} (ha : a < 1000) (hb : b < 1000) (h : nameN a = nameN b) : a = b := by
  unfold nameN at h
  injection h with h
  simp only [Array.mk.injEq, List.cons.injEq, and_true] at h
  obtain ⟨h1, h2, h3⟩ := h
  have e1 := congrArg UInt8.toNat h1
  have e2 := congrArg UInt8.toNat h2
  have e3 := congrArg UInt8.toNat h3
  simp only [UInt8.toNat_ofNat'] at e1 e2 e3
  omega
set_option maxRecDepth 100000 in
set_option maxHeartbeats 4000000 in
theorem name12 (k : Int) (w : World) (hk : (Lit.int .i64 k).wf = true) : Calls Try.prog 12 #[.int .i64 k] w fun e w' => e = .returned (.string (nameN (nameD k))) ∧ Below w.heap.size w w' := by
  have hx1 := Int.tmod_lt_of_pos k (show (0 : Int) < 1000 by omega)
  have hx0 := Int.lt_tmod_of_pos k (show (0 : Int) < 1000 by omega)
  obtain ⟨d, hd⟩ : ∃ d, nameD k = d := ⟨_, rfl⟩
  have hdl : d < 1000 := by rw [← hd]; exact nameD_lt k
  have hdx : k.tmod 1000 % 1000 = (d : Int) := by rw [← hd]; unfold nameD; omega
  have e0 : 48 + k.tmod 1000 % 1000 / 100 = ((48 + d / 100 : Nat) : Int) := by omega
  have e1 : 48 + k.tmod 1000 % 1000 / 10 % 10 = ((48 + d / 10 % 10 : Nat) : Int) := by omega
  have e2 : 48 + k.tmod 1000 % 10 = ((48 + d % 10 : Nat) : Int) := by omega
  have hconv : (convert 58 9 (.slice (some ⟨w.heap.size, 0, none⟩) 3 3)).run Try.prog (w.alloc (.cells #[.int .u8 (48 + k.tmod 1000 % 1000 / 100), .int .u8 (48 + k.tmod 1000 % 1000 / 10 % 10), .int .u8 (48 + k.tmod 1000 % 10)] 5)) =
      .ok (.string (nameN d)) (w.alloc (.cells #[.int .u8 (48 + k.tmod 1000 % 1000 / 100), .int .u8 (48 + k.tmod 1000 % 1000 / 10 % 10), .int .u8 (48 + k.tmod 1000 % 10)] 5)) := by
    rw [e0, e1, e2]
    refine run_convert_bytes_back (P := Try.prog) _ 58 9 5 ⟨w.heap.size, 0, none⟩ 3 [UInt8.ofNat (48 + d / 100), UInt8.ofNat (48 + d / 10 % 10), UInt8.ofNat (48 + d % 10)] Try.underlying58 Try.underlying5 Try.underlying9 (fun j hj => ?_)
    rw [Go.WideShapes.add_plain, Nat.zero_add, World.cell?_alloc_mark]
    match j, hj with
    | 0, _ => simp [UInt8.toNat_ofNat']; omega
    | 1, _ => simp [UInt8.toNat_ofNat']; omega
    | 2, _ => simp [UInt8.toNat_ofNat']; omega
  have CV := hconv
  rw [hd]
  clear hdx e0 e1 e2 hconv
  go_enter Try.func12, Try.ntmps12
  go_wp2_with fail
  go_ret
  exact ⟨rfl, (Below.refl _ _).alloc (Nat.le_refl _) _⟩
end Go.Proofs.Ytkjhofmimggpnaa
