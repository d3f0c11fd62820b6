/-
  Places in memory; the contract of find.
-/
import Derived.Test.YtbfkhghegkiifaaTabHome
import Derived.Test.YtbfkhghegkiifaaVals
import Derived.Deep.LoopGhost
namespace Go.Proofs.Ytbfkhghegkiifaa
open Go.RowKit
set_option linter.unusedVariables false
def entC (e : Ent) : List Value := [.int .i64 e.seq, .int .i64 e.off, .int .i64 e.len, .int .i64 e.exp, .bool e.hit]
def plC (p : Pl) : List Value := .int .i64 (p.st : Int) :: .string p.key :: entC p.en
def placesC : List Pl → List Value
  | [] => []
  | p :: l => plC p ++ placesC l
theorem plC_len (p : Pl) : (plC p).length = 7 := rfl
theorem placesC_len (l : List Pl) : (placesC l).length = l.length * 7 := by
  induction l with
  | nil => rfl
  | cons p l ih => simp only [placesC, List.length_append, plC_len, ih, List.length_cons]; omega
theorem placesC_at (l : List Pl) (i : Nat) (p : Pl) (h : l[i]? = some p) (j : Nat) (hj : j < 7) : (placesC l)[i * 7 + j]? = (plC p)[j]? := by
  induction l generalizing i with
  | nil => simp at h
  | cons q l ih =>
    cases i with
    | zero =>
      simp at h; subst h
      rw [Nat.zero_mul, Nat.zero_add]
      show (plC q ++ placesC l)[j]? = _
      rw [List.getElem?_append_left (by rw [plC_len]; exact hj)]
    | succ i =>
      have h' : l[i]? = some p := by simpa using h
      have := ih i h'
      show (plC q ++ placesC l)[(i + 1) * 7 + j]? = _
      rw [List.getElem?_append_right (by rw [plC_len]; omega), plC_len, show (i + 1) * 7 + j - 7 = i * 7 + j from by omega]
      exact this
theorem Vals.place {w : World} {a : Option Addr} {l : List Pl} (h : Vals w a (placesC l)) (i : Nat) (p : Pl) (hp : l[i]? = some p) :
    ∃ g off, a = some ⟨g, off, none⟩ ∧ g < w.heap.size ∧ ∀ j, j < 7 → w.cell? ⟨g, off + (i * 7 + j), none⟩ = (plC p)[j]? := by
  have hi := (List.getElem?_eq_some_iff.1 hp).1
  obtain ⟨g, off, ha, hg, _⟩ := h (i * 7) (by rw [placesC_len]; omega)
  refine ⟨g, off, ha, hg, fun j hj => ?_⟩
  obtain ⟨g', off', ha', _, hc⟩ := h (i * 7 + j) (by rw [placesC_len]; omega)
  rw [ha] at ha'
  cases ha'
  rw [hc, placesC_at l i p hp j hj]
def FindE (w : World) (l : List Pl) (h : Nat) (k : ByteArray) (e : Ending) (w' : World) : Prop :=
  ∃ (i : Nat) (b : Bool), e = .returned (.tuple #[.int .i64 (i : Int), .bool b]) ∧ FindR l h k i b ∧ Below w.heap.size w w'
theorem toList_inj' {a b : ByteArray} (h : a.toList = b.toList) : a = b := by
  rw [ByteArray.toList_eq, ByteArray.toList_eq] at h
  exact WideShapes.bytes_inj h
set_option maxRecDepth 100000 in
set_option maxHeartbeats 4000000 in
theorem find25 (n b cap : Nat) (a : Option Addr) (l : List Pl) (k : ByteArray) (w : World) (hln : l.length = n) (hn : n = 2 ^ b) (hb1 : 1 ≤ b) (hb : b ≤ 30) (hk : k.size ≤ 9223372036854775807) (hv : Vals w a (placesC l)) (hemp : ∃ (i : Nat) (p : Pl), l[i]? = some p ∧ p.st = 0) :
    Calls Try.prog 23 #[.agg #[.int .i64 (b : Int), .slice a n cap], .string k] w (FindE w l (homeN b k) k) := by
  obtain ⟨ei, ep, hei, hep⟩ := hemp
  have hel := (List.getElem?_eq_some_iff.1 hei).1
  have hle := pow_le30 hb
  rw [← hn] at hle
  obtain ⟨hh, hhe⟩ := homeN_lt k b hb1 hb
  rw [← hn] at hh
  obtain ⟨h, hhn⟩ : ∃ h, homeN b k = h := ⟨_, rfl⟩
  rw [hhn] at hh hhe
  rw [hhn]
  have HO := Lib.hid (fun W => home33 b (.slice a n cap) k W hk)
  have AF := Lib.hid (fun i (hi : i < n) W => after34 n b i cap (b : Int) a W hn hb hi)
  have HE := Lib.hid hhe
  have HV := Lib.hid hv
  have EI := Lib.hid hei
  have EP := Lib.hid hep
  have HLN := Lib.hid hln
  rw [hln] at hel
  have hd := dist_lt hh hel
  have hpd := Lib.hid (pos_dist hh hel)
  clear hhn hhe hv hn hei hep hln
  go_enter Try.func23, Try.ntmps23
  go_wp2_with fail
  with_reducible refine (HO.out _).mono ?_
  rintro e w1 ⟨rfl, hb1⟩
  have B1 := Lib.hid (show Below (w.heap.size + 1) (w.alloc (.cells #[.int .i64 (b : Int), .slice a n cap] 61)) w1 from hb1.mono (by simp))
  rw [HE.out]
  clear hb1 HO HE
  go_wp2_with fail
  go_loopg [6] (dist n h ei) (fun gk i wr => ∃ t, gk + t = dist n h ei ∧ i = .int .i64 (pos n h t : Int) ∧ Hid (∀ t', t' < t → ∃ p, l[pos n h t']? = some p ∧ p.st ≠ 0 ∧ ¬ (p.st = 1 ∧ p.key = k)) ∧ Below (w.heap.size + 1) (w.alloc (.cells #[.int .i64 (b : Int), .slice a n cap] 61)) wr)
  case atStart => exact ⟨0, rfl, by rw [pos_zero hh], Lib.hid (fun t' h => by omega), B1.out⟩
  case round =>
    obtain ⟨t, hgk, rfl, hno, hbr⟩ := hrel
    have B := Lib.hid hbr
    have HGK := Lib.hid hgk
    have htn : t < n := by omega
    obtain ⟨i, hi⟩ : ∃ i, pos n h t = i := ⟨_, rfl⟩
    have hin : i < n := by rw [← hi]; exact pos_lt hh (by omega)
    have HI := Lib.hid hi
    rw [hi]
    obtain ⟨p, hp⟩ : ∃ p, l[i]? = some p := ⟨_, List.getElem?_eq_getElem (by rw [HLN.out]; exact hin)⟩
    have HP := Lib.hid hp
    have hbw : Below w.heap.size w wr := ((Below.refl w.heap.size w).alloc (Nat.le_refl _) _).trans (hbr.mono (by omega))
    obtain ⟨g, off, rfl, hg, hc⟩ := (HV.out.below hbw (Nat.le_refl _)).place i p hp
    have c0 := hc 0 (by omega)
    have c1 := hc 1 (by omega)
    simp only [plC, entC, List.getElem?_cons_zero, List.getElem?_cons_succ, Nat.add_zero, ← Nat.add_assoc] at c0 c1
    have q1 : wr.cell? ⟨w.heap.size, 1, none⟩ = some (.slice (some ⟨g, off, none⟩) n cap) := by
      rw [hbr.cell (p := ⟨w.heap.size, 1, none⟩) (by show w.heap.size < _; omega), World.cell?_alloc_at _ _ _ _ rfl]; rfl
    have q0 : wr.cell? ⟨w.heap.size, 0, none⟩ = some (.int .i64 (b : Int)) := by
      rw [hbr.cell (p := ⟨w.heap.size, 0, none⟩) (by show w.heap.size < _; omega), World.cell?_alloc_at _ _ _ _ rfl]; rfl
    have hii : (i : Int) < n := by omega
    clear hgk hbr hi hp hbw hc B1
    by_cases h0 : p.st = 0
    · have hs0 : ((p.st : Int) != 0) = false := by simp [h0]
      have F := Lib.hid (show FindR l h k i false from ⟨t, by rw [HLN.out]; exact htn, by rw [HLN.out]; exact HI.out.symm, by rw [HLN.out]; exact hno.out, p, HP.out, .inr ⟨rfl, h0⟩⟩)
      clear h0
      go_wp2_with fail
      go_ret2
      exact ⟨i, false, rfl, F.out, ((Below.refl w.heap.size w).alloc (Nat.le_refl _) _).trans (B.out.mono (by omega))⟩
    · have hs0 : ((p.st : Int) != 0) = true := by simp [h0]
      by_cases h1 : p.st = 1
      · have hs1 : ((p.st : Int) == 1) = true := by simp [h1]
        by_cases hkk : p.key = k
        · have hke : (p.key.toList == k.toList) = true := by rw [hkk]; simp
          have F := Lib.hid (show FindR l h k i true from ⟨t, by rw [HLN.out]; exact htn, by rw [HLN.out]; exact HI.out.symm, by rw [HLN.out]; exact hno.out, p, HP.out, .inl ⟨rfl, h1, hkk⟩⟩)
          clear h0 h1 hkk
          go_wp2_with fail
          go_ret2
          exact ⟨i, true, rfl, F.out, ((Below.refl w.heap.size w).alloc (Nat.le_refl _) _).trans (B.out.mono (by omega))⟩
        · have hke : (p.key.toList == k.toList) = false := by
            simp only [beq_eq_false_iff_ne, ne_eq]
            exact fun e => hkk (toList_inj' e)
          have htd : t + 1 ≤ dist n h ei := by
            rcases Nat.lt_or_ge t (dist n h ei) with ht0 | ht0
            · omega
            · exfalso
              have e : t = dist n h ei := by have := HGK.out; omega
              have := HP.out
              rw [← HI.out, e, hpd.out, EI.out] at this
              cases this
              exact h0 EP.out
          have NO := Lib.hid (show ∀ t', t' < t + 1 → ∃ p, l[pos n h t']? = some p ∧ p.st ≠ 0 ∧ ¬ (p.st = 1 ∧ p.key = k) from fun t' ht' => by
            by_cases e : t' = t
            · subst e; exact ⟨p, by rw [HI.out]; exact HP.out, h0, fun e => hkk e.2⟩
            · exact hno.out t' (by omega))
          have AFT := Lib.hid (AF.out i hin)
          clear h0 h1 hkk
          go_wp2_with fail
          with_reducible refine (AFT.out _).mono ?_
          rintro e w2 ⟨rfl, hb2⟩
          have B2 := Lib.hid (B.out.trans (hb2.mono (by have := B.out.size; simp at this; omega)))
          have HNX := Lib.hid (show nxt n i = pos n h (t + 1) by rw [← HI.out]; exact nxt_pos hh (by omega))
          clear hb2 q0 q1 c0 c1
          go_wp2_with fail
          go_roundg (dist n h ei - (t + 1))
          case measure => have := HGK.out; omega
          case rel => exact ⟨t + 1, by omega, by rw [HNX.out], NO, B2.out⟩
      · have hs1 : ((p.st : Int) == 1) = false := by simp; omega
        have htd : t + 1 ≤ dist n h ei := by
          rcases Nat.lt_or_ge t (dist n h ei) with ht0 | ht0
          · omega
          · exfalso
            have e : t = dist n h ei := by have := HGK.out; omega
            have := HP.out
            rw [← HI.out, e, hpd.out, EI.out] at this
            cases this
            exact h0 EP.out
        have NO := Lib.hid (show ∀ t', t' < t + 1 → ∃ p, l[pos n h t']? = some p ∧ p.st ≠ 0 ∧ ¬ (p.st = 1 ∧ p.key = k) from fun t' ht' => by
          by_cases e : t' = t
          · subst e; exact ⟨p, by rw [HI.out]; exact HP.out, h0, fun e => h1 e.1⟩
          · exact hno.out t' (by omega))
        have AFT := Lib.hid (AF.out i hin)
        clear h0 h1
        go_wp2_with fail
        with_reducible refine (AFT.out _).mono ?_
        rintro e w2 ⟨rfl, hb2⟩
        have B2 := Lib.hid (B.out.trans (hb2.mono (by have := B.out.size; simp at this; omega)))
        have HNX := Lib.hid (show nxt n i = pos n h (t + 1) by rw [← HI.out]; exact nxt_pos hh (by omega))
        clear hb2 q0 q1 c0 c1
        go_wp2_with fail
        go_roundg (dist n h ei - (t + 1))
        case measure => have := HGK.out; omega
        case rel => exact ⟨t + 1, by omega, by rw [HNX.out], NO, B2.out⟩
end Go.Proofs.Ytbfkhghegkiifaa
