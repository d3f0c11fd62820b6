/-
  The table beside a list of pairs that it has handed back.
-/
import Derived.Test.YtbfkhghegkiifaaPairsWalk
import Derived.Test.YtbfkhghegkiifaaTabOb
namespace Go.Proofs.Ytbfkhghegkiifaa
open Go.RowKit
set_option linter.unusedVariables false
theorem keepS {n : Nat} {W0 W w' : World} (h : (∀ b o, b < n → W.cell? ⟨b, o, none⟩ = W0.cell? ⟨b, o, none⟩) ∧ Below n W0 W) (h0 : n ≤ W0.heap.size) (hb : Below W.heap.size W w') :
    (∀ b o, b < n → w'.cell? ⟨b, o, none⟩ = W0.cell? ⟨b, o, none⟩) ∧ Below n W0 w' := by
  have k := h.2.trans (hb.mono (Nat.le_trans h0 h.2.size))
  exact ⟨fun b o hlt => k.cell (p := ⟨b, o, none⟩) hlt, k⟩
structure TbrP (w0 w : World) (tb : Nat) (vn vo : Value) (T : Tab) (a : Option Addr) (L : List Pr) : Prop where
  tb' : Tb w tb vn vo T
  ti : TI T
  new : ∀ j, tfoot tb vn vo j → w0.heap.size ≤ j
  dis : ∀ b off, a = some ⟨b, off, none⟩ → ¬ tfoot tb vn vo b
  vals : Vals w a (pairsC L)
  lt : ∀ b off, a = some ⟨b, off, none⟩ → b < w.heap.size
  bel : Below w0.heap.size w0 w
def Tbr (w0 w : World) (tb : Nat) (T : Tab) (a : Option Addr) (L : List Pr) : Prop := ∃ vn vo, TbrP w0 w tb vn vo T a L
theorem Tbr.ti {w0 w : World} {tb : Nat} {T : Tab} {a : Option Addr} {L : List Pr} (h : Tbr w0 w tb T a L) : TI T := by obtain ⟨_, _, d⟩ := h; exact d.ti
theorem Tbr.bel {w0 w : World} {tb : Nat} {T : Tab} {a : Option Addr} {L : List Pr} (h : Tbr w0 w tb T a L) : Below w0.heap.size w0 w := by obtain ⟨_, _, d⟩ := h; exact d.bel
theorem Tbr.vals {w0 w : World} {tb : Nat} {T : Tab} {a : Option Addr} {L : List Pr} (h : Tbr w0 w tb T a L) : Vals w a (pairsC L) := by obtain ⟨_, _, d⟩ := h; exact d.vals
theorem Tbr.below {w0 w w' : World} {tb : Nat} {T : Tab} {a : Option Addr} {L : List Pr} (h : Tbr w0 w tb T a L) (hb : Below w.heap.size w w') : Tbr w0 w' tb T a L := by
  obtain ⟨vn, vo, d⟩ := h
  exact ⟨vn, vo, d.tb'.below hb, d.ti, d.new, d.dis, d.vals.below hb (Nat.le_refl _), fun b off e => Nat.lt_of_lt_of_le (d.lt b off e) hb.size, bel_trans d.bel hb⟩
theorem tbr_len (tb : Nat) (T : Tab) (a : Option Addr) (L : List Pr) (w0 w : World) (h : Tbr w0 w tb T a L) :
    Calls Try.prog 33 #[.pointer (some ⟨tb, 0, none⟩)] w fun e' w' => e' = .returned (.int .i64 (T.tot : Int)) ∧ ∃ m, w' = w.drewN m := by
  obtain ⟨vn, vo, d⟩ := h
  exact len15 tb vn vo T w d.tb' d.ti.len_le
/-- Pairs on a table newer than w0 -/
theorem pairs_ob (tb : Nat) (T : Tab) (w0 w : World) (h : Tob w0 w tb T) :
    Calls Try.prog 16 #[.pointer (some ⟨tb, 0, none⟩)] w fun e w' => ∃ v qs, e = .returned v ∧ ∃ a c n, v = .slice a n c ∧ qs.length = n ∧ Tbr w0 w' tb T a qs ∧ Asc qs ∧ qs.Perm (prs T) := by
  obtain ⟨vn, vo, t, ti, hn, hb⟩ := h
  refine (pairs21 tb vn vo T w t ti).mono ?_
  rintro e w' ⟨v, qs, rfl, h1, h2, h3, h4⟩
  obtain ⟨a, c, rfl, hv, _, _, _, h5, h6⟩ := ownsRow_vals h3
  refine ⟨_, qs, rfl, a, c, qs.length, rfl, rfl, ⟨vn, vo, t.below h4, ti, hn, fun b off e hj => ?_, hv, fun b off e => (h6 b off e).2.1, bel_trans hb h4⟩, h1, h2⟩
  have h7 := (h6 b off e).1
  have h8 := t.lt b hj
  omega
theorem apart_one' {l : List Pr} (h : Apart l) {a b : Pr} (ha : a ∈ l) (hb : b ∈ l) : a.key = b.key → a = b := by
  induction l with
  | nil => cases ha
  | cons x l ih =>
    intro hk
    obtain ⟨h1, h2⟩ := List.pairwise_cons.1 h
    rcases List.mem_cons.1 ha with e1 | h3
    · rcases List.mem_cons.1 hb with e2 | h4
      · rw [e1, e2]
      · exact absurd (by rw [← e1]; exact hk) (h1 b h4)
    · rcases List.mem_cons.1 hb with e2 | h4
      · exact absurd (by rw [← e2]; exact hk.symm) (h1 a h3)
      · exact ih h2 h3 h4 hk
/-- a Get of a pair's key finds the pair -/
theorem get_pair {T0 T T' : Tab} {b : Bool} {y : Ent} {x : Pr} (hI : TI T0) (hh : ∀ k e, Has T k e ↔ Has T0 k e) (s : GetI T T' x.key b y) (hx : x ∈ prs T0) : b = true ∧ y = x.en := by
  have h1 : Has T x.key x.en := (hh _ _).2 (mem_prs.1 hx)
  cases b with
  | false => exact absurd h1 ((s.miss rfl).1 x.en)
  | true =>
    have h2 := (hh _ _).1 (s.hit rfl)
    have h3 : (⟨x.key, y⟩ : Pr) ∈ prs T0 := mem_prs.2 h2
    have h4 := apart_one' (prs_apart hI) h3 hx rfl
    exact ⟨rfl, by rw [← h4]⟩
end Go.Proofs.Ytbfkhghegkiifaa
