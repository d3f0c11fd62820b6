/-
  The table and the reference's list, side by side.
-/
import Derived.Test.YtkjhofmimggpnaaRefTSet
import Derived.Test.YtkjhofmimggpnaaRefTGet
import Derived.Test.YtkjhofmimggpnaaRefTDel
import Derived.Test.YtkjhofmimggpnaaPairsWalk
namespace Go.Proofs.Ytkjhofmimggpnaa
open Go.RowKit
set_option linter.unusedVariables false
theorem keepS {n : Nat} {W0 W w' : World} (h : (∀ b o, b < n → W.cell? ⟨b, o, none⟩ = W0.cell? ⟨b, o, none⟩) ∧ Below n W0 W) (h0 : n ≤ W0.heap.size) (hb : Below W.heap.size W w') :
    (∀ b o, b < n → w'.cell? ⟨b, o, none⟩ = W0.cell? ⟨b, o, none⟩) ∧ Below n W0 w' := by
  have k := h.2.trans (hb.mono (Nat.le_trans h0 h.2.size))
  exact ⟨fun b o hlt => k.cell (p := ⟨b, o, none⟩) hlt, k⟩
/-- what was laid from B on, up to w1's end, is as it was -/
def Kept (B : Nat) (w1 w' : World) : Prop := w1.heap.size ≤ w'.heap.size ∧ ∀ j, B ≤ j → j < w1.heap.size → w'.heap[j]? = w1.heap[j]?
theorem Kept.below {B : Nat} {w1 w' : World} (h : Below w1.heap.size w1 w') : Kept B w1 w' := ⟨h.size, fun j _ hj => h.block j hj⟩
structure DuoP (w0 w : World) (tb : Nat) (vn vo : Value) (T : Tab) (bm : Nat) (L : List Pr) (R : Nat → Prop) : Prop where
  tb' : Tb w tb vn vo T
  ti : TI T
  rt : RT w bm L R
  asc : Asc L
  newT : ∀ j, tfoot tb vn vo j → w0.heap.size ≤ j
  newR : ∀ j, R j → w0.heap.size ≤ j
  dis : ∀ j, tfoot tb vn vo j → ¬ R j
  bel : Below w0.heap.size w0 w
def Duo (w0 w : World) (tb : Nat) (T : Tab) (bm : Nat) (L : List Pr) : Prop := ∃ vn vo R, DuoP w0 w tb vn vo T bm L R
theorem Duo.bel {w0 w : World} {tb : Nat} {T : Tab} {bm : Nat} {L : List Pr} (h : Duo w0 w tb T bm L) : Below w0.heap.size w0 w := by obtain ⟨_, _, _, d⟩ := h; exact d.bel
theorem Duo.ti {w0 w : World} {tb : Nat} {T : Tab} {bm : Nat} {L : List Pr} (h : Duo w0 w tb T bm L) : TI T := by obtain ⟨_, _, _, d⟩ := h; exact d.ti
theorem Duo.asc {w0 w : World} {tb : Nat} {T : Tab} {bm : Nat} {L : List Pr} (h : Duo w0 w tb T bm L) : Asc L := by obtain ⟨_, _, _, d⟩ := h; exact d.asc
theorem DuoP.below {w0 w w' : World} {tb : Nat} {vn vo : Value} {T : Tab} {bm : Nat} {L : List Pr} {R : Nat → Prop} (h : DuoP w0 w tb vn vo T bm L R) (hb : Below w.heap.size w w') : DuoP w0 w' tb vn vo T bm L R :=
  ⟨h.tb'.below hb, h.ti, h.rt.below hb, h.asc, h.newT, h.newR, h.dis, bel_trans h.bel hb⟩
theorem Duo.below {w0 w w' : World} {tb : Nat} {T : Tab} {bm : Nat} {L : List Pr} (h : Duo w0 w tb T bm L) (hb : Below w.heap.size w w') : Duo w0 w' tb T bm L := by
  obtain ⟨vn, vo, R, d⟩ := h
  exact ⟨vn, vo, R, d.below hb⟩
theorem DuoP.stepT {w0 w w1 w' : World} {tb : Nat} {vn vo vn' vo' : Value} {T T' : Tab} {bm : Nat} {L : List Pr} {R : Nat → Prop} (h : DuoP w0 w tb vn vo T bm L R) (hb : Below w.heap.size w w1) (t : Tb w' tb vn' vo' T') (ti : TI T') (st : St w1 w' tb vn vo vn' vo') :
    Duo w0 w' tb T' bm L ∧ Kept w.heap.size w1 w' := by
  have hs := hb.size
  have h0 := h.bel.size
  have h1 := h.below hb
  refine ⟨⟨vn', vo', R, t, ti, h1.rt.frame st.fr (fun k hk ht => h.dis k ht hk), h.asc, fun j hj => ?_, h.newR, fun j hj hR => ?_, Fr.below h1.bel st.fr (by omega) h.newT⟩, st.fr.size, fun j hj hlt => st.fr.block j hlt (fun ht => ?_)⟩
  · rcases st.own j hj with e | e
    · exact h.newT j e
    · omega
  · rcases st.own j hj with e | e
    · exact h.dis j e hR
    · have := h1.rt.lt j hR; omega
  · have := h.tb'.lt j ht; omega
theorem DuoP.stepR {w0 w w1 w' : World} {tb : Nat} {vn vo : Value} {T : Tab} {bm : Nat} {L L' : List Pr} {R R' : Nat → Prop} (h : DuoP w0 w tb vn vo T bm L R) (hb : Below w.heap.size w w1) (r : RT w' bm L' R') (ha : Asc L') (fr : Fr R w1 w') (hn : ∀ j, R' j → R j ∨ w1.heap.size ≤ j) :
    Duo w0 w' tb T bm L' ∧ Kept w.heap.size w1 w' := by
  have hs := hb.size
  have h0 := h.bel.size
  have h1 := h.below hb
  refine ⟨⟨vn, vo, R', h1.tb'.frame fr (fun k hk hR => h.dis k hk hR), h.ti, r, ha, h.newT, fun j hj => ?_, fun j hj hR => ?_, Fr.below h1.bel fr (by omega) h.newR⟩, fr.size, fun j hj hlt => fr.block j hlt (fun hR => ?_)⟩
  · rcases hn j hj with e | e
    · exact h.newR j e
    · omega
  · rcases hn j hR with e | e
    · exact h.dis j hj e
    · have := h1.tb'.lt j hj; omega
  · have := h.rt.lt j hR; omega
theorem duo_set (tb bm : Nat) (T : Tab) (L : List Pr) (k : ByteArray) (e : Ent) (w0 w w1 : World) (h : Duo w0 w tb T bm L) (hb : Below w.heap.size w w1) (hk : k.size ≤ 9223372036854775807) (hs : T.tot ≤ 1000000) :
    Calls Try.prog 9 #[.pointer (some ⟨tb, 0, none⟩), .string k, entV e] w1 fun e' w' => e' = .returned (.tuple #[]) ∧ ∃ T', (Duo w0 w' tb T' bm L ∧ Kept w.heap.size w1 w') ∧ SetI T T' k e := by
  obtain ⟨vn, vo, R, d⟩ := h
  refine (set9 tb vn vo T k e w1 (d.tb'.below hb) d.ti hk hs).mono ?_
  rintro e' w' ⟨rfl, vn', vo', T', t, st, si⟩
  exact ⟨rfl, T', d.stepT hb t si.ti st, si⟩
theorem duo_get (tb bm : Nat) (T : Tab) (L : List Pr) (k : ByteArray) (w0 w w1 : World) (h : Duo w0 w tb T bm L) (hb : Below w.heap.size w w1) (hk : k.size ≤ 9223372036854775807) :
    Calls Try.prog 10 #[.pointer (some ⟨tb, 0, none⟩), .string k] w1 fun e' w' => ∃ b x T', e' = .returned (.tuple #[entV x, .bool b]) ∧ (Duo w0 w' tb T' bm L ∧ Kept w.heap.size w1 w') ∧ GetI T T' k b x := by
  obtain ⟨vn, vo, R, d⟩ := h
  refine (get10 tb vn vo T k w1 (d.tb'.below hb) d.ti hk).mono ?_
  rintro e' w' ⟨b, x, vo', T', rfl, t, st, si⟩
  exact ⟨b, x, T', rfl, d.stepT hb t si.ti st, si⟩
theorem duo_del (tb bm : Nat) (T : Tab) (L : List Pr) (k : ByteArray) (w0 w w1 : World) (h : Duo w0 w tb T bm L) (hb : Below w.heap.size w w1) (hk : k.size ≤ 9223372036854775807) :
    Calls Try.prog 13 #[.pointer (some ⟨tb, 0, none⟩), .string k] w1 fun e' w' => ∃ b T', e' = .returned (.bool b) ∧ (Duo w0 w' tb T' bm L ∧ Kept w.heap.size w1 w') ∧ DelI T T' k b := by
  obtain ⟨vn, vo, R, d⟩ := h
  refine (del13 tb vn vo T k w1 (d.tb'.below hb) d.ti hk).mono ?_
  rintro e' w' ⟨b, vo', T', rfl, t, st, si⟩
  exact ⟨b, T', rfl, d.stepT hb t si.ti st, si⟩
theorem duo_rset (tb bm : Nat) (T : Tab) (L : List Pr) (k : ByteArray) (e : Ent) (w0 w w1 : World) (h : Duo w0 w tb T bm L) (hb : Below w.heap.size w w1) (hL : L.length ≤ 1000) :
    Calls Try.prog 17 #[.pointer (some ⟨bm, 0, none⟩), .string k, entV e] w1 fun e' w' => e' = .returned (.tuple #[]) ∧ ∃ L', (Duo w0 w' tb T bm L' ∧ Kept w.heap.size w1 w') ∧ Asc L' ∧ (∀ x, x ∈ L' ↔ x = ⟨k, e⟩ ∨ (x.key ≠ k ∧ x ∈ L)) ∧ L'.length ≤ L.length + 1 := by
  obtain ⟨vn, vo, R, d⟩ := h
  refine (rset17 bm R L k e w1 hL d.asc (d.rt.below hb)).mono ?_
  rintro e' w' ⟨rfl, L', R', r1, r2, r3, r4, r5, r6⟩
  exact ⟨rfl, L', d.stepR hb r1 r2 r5 r6, r2, r3, r4⟩
theorem duo_rdel (tb bm : Nat) (T : Tab) (L : List Pr) (k : ByteArray) (w0 w w1 : World) (h : Duo w0 w tb T bm L) (hb : Below w.heap.size w w1) (hL : L.length ≤ 1000) :
    Calls Try.prog 19 #[.pointer (some ⟨bm, 0, none⟩), .string k] w1 fun e' w' => ∃ b L', e' = .returned (.bool b) ∧ (Duo w0 w' tb T bm L' ∧ Kept w.heap.size w1 w') ∧ Asc L' ∧ (∀ x, x ∈ L' ↔ (x.key ≠ k ∧ x ∈ L)) ∧ L'.length ≤ L.length ∧ (b = true ↔ ∃ e, ⟨k, e⟩ ∈ L) := by
  obtain ⟨vn, vo, R, d⟩ := h
  refine (rdel19 bm R L k w1 hL d.asc (d.rt.below hb)).mono ?_
  rintro e' w' ⟨b, rfl, L', R', r1, r2, r3, r4, r5, r6, r7⟩
  exact ⟨b, L', rfl, d.stepR hb r1 r2 r6 r7, r2, r3, r4, r5⟩
theorem duo_rget (tb bm : Nat) (T : Tab) (L : List Pr) (k : ByteArray) (w0 w w1 : World) (h : Duo w0 w tb T bm L) (hb : Below w.heap.size w w1) (hL : L.length ≤ 1000) :
    Calls Try.prog 18 #[.pointer (some ⟨bm, 0, none⟩), .string k] w1 (GetR w1 L k) := by
  obtain ⟨vn, vo, R, d⟩ := h
  obtain ⟨v, p, hR⟩ := d.rt
  exact rget18 bm v L k w1 (by omega) d.asc (p.below hb)
theorem duo_len (tb bm : Nat) (T : Tab) (L : List Pr) (w0 w : World) (h : Duo w0 w tb T bm L) :
    Calls Try.prog 15 #[.pointer (some ⟨tb, 0, none⟩)] w fun e' w' => e' = .returned (.int .i64 (T.tot : Int)) ∧ ∃ m, w' = w.drewN m := by
  obtain ⟨vn, vo, R, d⟩ := h
  exact len15 tb vn vo T w d.tb' d.ti.len_le
theorem duo_pairs (tb bm : Nat) (T : Tab) (L : List Pr) (w0 w : World) (h : Duo w0 w tb T bm L) :
    Calls Try.prog 21 #[.pointer (some ⟨tb, 0, none⟩)] w (PairsE w T) := by
  obtain ⟨vn, vo, R, d⟩ := h
  exact pairs21 tb vn vo T w d.tb' d.ti
/-- the reference's cell -/
theorem Duo.list {w0 w : World} {tb : Nat} {T : Tab} {bm : Nat} {L : List Pr} (h : Duo w0 w tb T bm L) : ∃ a cap, w.heap[bm]? = some (.cells #[.slice a L.length cap] 42 (0, 0)) ∧ Vals w a (pairsC L) := by
  obtain ⟨vn, vo, R, d⟩ := h
  obtain ⟨v, p, hR⟩ := d.rt
  obtain ⟨a, cap, rfl, hv, _⟩ := p.len
  exact ⟨a, cap, p.blk, hv⟩
/-- a table newly made, then a list newly made -/
theorem duo_new {w0 w1 : World} {tb : Nat} {T : Tab} (o : Tob w0 w1 tb T) : Duo w0 (w1.alloc (.cells #[.slice none 0 0] 42)) tb T w1.heap.size [] := by
  obtain ⟨vn, vo, t, ti, hn, hb⟩ := o
  have hx : (w1.alloc (.cells #[.slice none 0 0] 42)).heap[w1.heap.size]? = some (.cells #[.slice none 0 0] 42 (0, 0)) := by
    show (w1.heap.push _)[w1.heap.size]? = _
    simp
  have hbx : Below w1.heap.size w1 (w1.alloc (.cells #[.slice none 0 0] 42)) := (Below.refl _ _).alloc (Nat.le_refl _) _
  have hs := hb.size
  refine ⟨vn, vo, _, t.below hbx, ti, ⟨_, ⟨hx, own_nil _ _ _ _, by simp [Value.ownBlock]⟩, rfl⟩, List.Pairwise.nil, hn, fun j hj => ?_, fun j hj hR => ?_, bel_trans hb hbx⟩
  · rcases hj with rfl | hj
    · exact hs
    · simp [Value.ownBlock] at hj
  · have := t.lt j hj
    rcases hR with rfl | hR
    · omega
    · simp [Value.ownBlock] at hR
theorem Like.del {T T' : Tab} {L L' : List Pr} {k : ByteArray} {b : Bool} (h : Like T L) (s : DelI T T' k b) (hA : Asc L') (hm : ∀ x, x ∈ L' ↔ (x.key ≠ k ∧ x ∈ L)) : Like T' L' := by
  refine ⟨hA, fun x => ?_⟩
  rw [hm, h.has, s.has]
theorem Like.get {T T' : Tab} {L : List Pr} {k : ByteArray} {b : Bool} {x : Ent} (h : Like T L) (s : GetI T T' k b x) : Like T' L := ⟨h.asc, fun y => by rw [h.has, s.has]⟩
theorem Like.hit {T : Tab} {L : List Pr} (h : Like T L) (k : ByteArray) : (∃ e, (⟨k, e⟩ : Pr) ∈ L) ↔ ∃ e, Has T k e := by
  constructor
  · rintro ⟨e, he⟩; exact ⟨e, (h.has _).1 he⟩
  · rintro ⟨e, he⟩; exact ⟨e, (h.has ⟨k, e⟩).2 he⟩
theorem bool_iff {a b : Bool} {p : Prop} (h : a = true ↔ p) (k : b = true ↔ p) : a = b := by
  cases a <;> cases b
  · rfl
  · exact absurd (h.2 (k.1 rfl)) (by simp)
  · exact absurd (k.2 (h.1 rfl)) (by simp)
  · rfl
theorem Like.bdel {T T' : Tab} {L : List Pr} {k : ByteArray} {b b' : Bool} (h : Like T L) (s : DelI T T' k b) (hb : b' = true ↔ ∃ e, (⟨k, e⟩ : Pr) ∈ L) : b = b' := bool_iff s.hit (hb.trans (h.hit k))
theorem apart_one {l : List Pr} (h : Apart l) {a b : Pr} (ha : a ∈ l) (hb : b ∈ l) (hk : a.key = b.key) : a = b := by
  revert hk
  induction l with
  | nil => cases ha
  | cons x l ih =>
    intro hk
    obtain ⟨h1, h2⟩ := List.pairwise_cons.1 h
    rcases List.mem_cons.1 ha with e1 | h3
    · rcases List.mem_cons.1 hb with e2 | h4
      · rw [e1, e2]
      · exact absurd (by rw [← e1]; exact hk) (h1 b h4)
    · rcases List.mem_cons.1 hb with e2 | h4
      · exact absurd (by rw [← e2]; exact hk.symm) (h1 a h3)
      · exact ih h2 h3 h4 hk
theorem Like.one {T : Tab} {L : List Pr} (h : Like T L) {k : ByteArray} {x y : Ent} (h1 : (⟨k, x⟩ : Pr) ∈ L) (h2 : (⟨k, y⟩ : Pr) ∈ L) : x = y := by
  have := apart_one h.asc.apart h1 h2 rfl
  injection this
/-- what both Gets give is one -/
theorem Like.same {T T' : Tab} {L : List Pr} {k : ByteArray} {b b' : Bool} {x y : Ent} (h : Like T L) (s : GetI T T' k b x) (h1 : b' = true → (⟨k, y⟩ : Pr) ∈ L) (h0 : b' = false → y = ent0 ∧ ∀ e, (⟨k, e⟩ : Pr) ∉ L) : b = b' ∧ x = y := by
  cases b with
  | true =>
    have hx : (⟨k, x⟩ : Pr) ∈ L := (h.has ⟨k, x⟩).2 (s.hit rfl)
    cases b' with
    | true => exact ⟨rfl, h.one hx (h1 rfl)⟩
    | false => exact absurd hx ((h0 rfl).2 x)
  | false =>
    cases b' with
    | true => exact absurd ((h.has ⟨k, y⟩).1 (h1 rfl)) ((s.miss rfl).1 y)
    | false => exact ⟨rfl, by rw [(s.miss rfl).2, (h0 rfl).1]⟩
end Go.Proofs.Ytkjhofmimggpnaa
