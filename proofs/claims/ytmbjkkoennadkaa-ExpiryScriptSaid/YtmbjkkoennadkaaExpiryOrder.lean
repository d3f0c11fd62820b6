/-
  ExpiryOrder: Due in two steps returns the same keys, in the same order, as in one. No condition.
-/
import Derived.Test.YtmbjkkoennadkaaAwake18
import Derived.Test.YtmbjkkoennadkaaRead2
import Derived.Deep.DeepCutAuto
import Derived.Deep.QuietTactic
namespace Go.Proofs.Ytmbjkkoennadkaa
open Go.RowKit Go.Maps Go.ChangeShapes Go.WideShapes Go.ChangeAt
set_option linter.unusedVariables false
theorem QOk.len {w : World} {b N : Nat} {S : Nat → Prop} {L : List Item} (h : QOk w b N S L) : L.length ≤ N := by
  obtain ⟨v, l, mb, m, D, q, _⟩ := h
  have h1 := q.om.size_le
  have h2 := q.ag.size
  have h3 := q.mN
  omega
/-- two queues, and what is new since w -/
def Two (w wr : World) (x y Nx Ny : Nat) (Lx Ly : List Item) : Prop :=
  ∃ Sx Sy : Nat → Prop, QOk wr x Nx Sx Lx ∧ QOk wr y Ny Sy Ly ∧ (∀ j, Sx j → ¬ Sy j) ∧ Fr (fun _ => False) w wr ∧ (∀ j, Sx j → w.heap.size ≤ j) ∧ ∀ j, Sy j → w.heap.size ≤ j
theorem Two.below {w wr w' : World} {x y Nx Ny : Nat} {Lx Ly : List Item} (h : Two w wr x y Nx Ny Lx Ly) (hb : Below wr.heap.size wr w') : Two w w' x y Nx Ny Lx Ly := by
  obtain ⟨Sx, Sy, h1, h2, h3, h4, h5, h6⟩ := h
  exact ⟨Sx, Sy, h1.frame (T := fun _ => False) (.of_below hb) (fun _ _ f => f), h2.frame (T := fun _ => False) (.of_below hb) (fun _ _ f => f), h3, h4.trans (.of_below (S := fun _ => False) hb) (fun _ f => f.elim), h5, h6⟩
theorem two_x {w wr w' : World} {x y Nx Nx' Ny : Nat} {Lx Lx' Ly : List Item} {Sx Sy : Nat → Prop} (h : QOk wr x Nx Sx Lx ∧ QOk wr y Ny Sy Ly ∧ (∀ j, Sx j → ¬ Sy j) ∧ Fr (fun _ => False) w wr ∧ (∀ j, Sx j → w.heap.size ≤ j) ∧ ∀ j, Sy j → w.heap.size ≤ j)
    (k : ∃ S', QOk w' x Nx' S' Lx' ∧ Fr Sx wr w' ∧ ∀ j, S' j → Sx j ∨ wr.heap.size ≤ j) : Two w w' x y Nx' Ny Lx' Ly := by
  obtain ⟨h1, h2, h3, h4, h5, h6⟩ := h
  obtain ⟨S', k1, k2, k3⟩ := k
  refine ⟨S', Sy, k1, h2.frame k2 (fun j hj hs => h3 j hs hj), fun j hj hs => ?_, h4.trans k2 (fun j hj => .inr (h5 j hj)), fun j hj => ?_, h6⟩
  · rcases k3 j hj with e | e
    · exact h3 j e hs
    · have := h2.lt j hs; omega
  · rcases k3 j hj with e | e
    · exact h5 j e
    · exact Nat.le_trans h4.size e
theorem two_y {w wr w' : World} {x y Nx Ny Ny' : Nat} {Lx Ly Ly' : List Item} {Sx Sy : Nat → Prop} (h : QOk wr x Nx Sx Lx ∧ QOk wr y Ny Sy Ly ∧ (∀ j, Sx j → ¬ Sy j) ∧ Fr (fun _ => False) w wr ∧ (∀ j, Sx j → w.heap.size ≤ j) ∧ ∀ j, Sy j → w.heap.size ≤ j)
    (k : ∃ S', QOk w' y Ny' S' Ly' ∧ Fr Sy wr w' ∧ ∀ j, S' j → Sy j ∨ wr.heap.size ≤ j) : Two w w' x y Nx Ny' Lx Ly' := by
  obtain ⟨h1, h2, h3, h4, h5, h6⟩ := h
  obtain ⟨Sx', Sy', a1, a2, a3, a4, a5, a6⟩ := two_x ⟨h2, h1, fun j hj hs => h3 j hs hj, h4, h6, h5⟩ k
  exact ⟨Sy', Sx', a2, a1, fun j hj hs => a3 j hs hj, a4, a6, a5⟩
theorem two_start {w w0 w1 w2 : World} {x y : Nat} {Sx Sy : Nat → Prop} (h : Fr (fun _ => False) w w1) (q1 : QOk w1 x 0 Sx []) (n1 : ∀ j, Sx j → w0.heap.size ≤ j) (q2 : QOk w2 y 0 Sy []) (f2 : Fr (fun _ => False) w1 w2) (n2 : ∀ j, Sy j → w1.heap.size ≤ j) (hs : w.heap.size ≤ w0.heap.size) : Two w w2 x y 0 0 [] [] :=
  ⟨Sx, Sy, q1.frame f2 (fun _ _ f => f), q2, fun j hj hs => by have := q1.lt j hj; have := n2 j hs; omega, h.trans f2 (fun _ f => f.elim), fun j hj => Nat.le_trans hs (n1 j hj), fun j hj => Nat.le_trans h.size (n2 j hj)⟩
def tr (s : ByteArray) : ByteArray := if s.size ≤ 10 then s else s.extract 0 10
theorem tr_le (s : ByteArray) : (tr s).size ≤ 10 := by
  unfold tr
  split
  · assumption
  · rw [ByteArray.size_extract]; omega
def ordL (ks : List ByteArray) (zs : List Int) : Nat → List Item
  | 0 => []
  | i + 1 => putL (ordL ks zs i) (tr (ks[i]?.getD ByteArray.empty)) (zs[i]?.getD 0)
theorem early_two (L : List Item) (a b : Int) (h : a ≤ b) : early L b = early L a ++ early (late L a) b ∧ late L b = late (late L a) b := by
  induction L with
  | nil => exact ⟨rfl, rfl⟩
  | cons x L ih =>
    by_cases hx : x.at' ≤ a
    · obtain ⟨h1, h2⟩ := late_go (x := x) (L := L) hx
      obtain ⟨h3, h4⟩ := late_go (x := x) (L := L) (now := b) (by omega)
      rw [h1, h2, h3, h4, ih.1, ih.2]
      exact ⟨rfl, rfl⟩
    · obtain ⟨h1, h2⟩ := late_stop (L := x :: L) (now := a) (.inr (by simp [nextA]; omega))
      rw [h1, h2]
      exact ⟨rfl, rfl⟩
def keyS (L : List Item) : List ByteArray := L.map Item.key
theorem keysV_eq (L : List Item) : keysV L = (keyS L).map Value.string := by simp [keysV, keyS]
theorem due_x {w wr w' : World} {x y Nx Ny : Nat} {Lx Lx' Ly : List Item} {Sx Sy : Nat → Prop} (h : QOk wr x Nx Sx Lx ∧ QOk wr y Ny Sy Ly ∧ (∀ j, Sx j → ¬ Sy j) ∧ Fr (fun _ => False) w wr ∧ (∀ j, Sx j → w.heap.size ≤ j) ∧ ∀ j, Sy j → w.heap.size ≤ j)
    (q : QOk w' x Nx Sx Lx') (f : Fr Sx wr w') : QOk w' x Nx Sx Lx' ∧ QOk w' y Ny Sy Ly ∧ (∀ j, Sx j → ¬ Sy j) ∧ Fr (fun _ => False) w w' ∧ (∀ j, Sx j → w.heap.size ≤ j) ∧ ∀ j, Sy j → w.heap.size ≤ j := by
  obtain ⟨h1, h2, h3, h4, h5, h6⟩ := h
  exact ⟨q, h2.frame f (fun j hj hs => h3 j hs hj), h3, h4.trans f (fun j hj => .inr (h5 j hj)), h5, h6⟩
theorem due_y {w wr w' : World} {x y Nx Ny : Nat} {Lx Ly Ly' : List Item} {Sx Sy : Nat → Prop} (h : QOk wr x Nx Sx Lx ∧ QOk wr y Ny Sy Ly ∧ (∀ j, Sx j → ¬ Sy j) ∧ Fr (fun _ => False) w wr ∧ (∀ j, Sx j → w.heap.size ≤ j) ∧ ∀ j, Sy j → w.heap.size ≤ j)
    (q : QOk w' y Ny Sy Ly') (f : Fr Sy wr w') : QOk w' x Nx Sx Lx ∧ QOk w' y Ny Sy Ly' ∧ (∀ j, Sx j → ¬ Sy j) ∧ Fr (fun _ => False) w w' ∧ (∀ j, Sx j → w.heap.size ≤ j) ∧ ∀ j, Sy j → w.heap.size ≤ j := by
  obtain ⟨h1, h2, h3, h4, h5, h6⟩ := h
  exact ⟨h1.frame f (fun j hj hs => h3 j hj hs), q, h3, h4.trans f (fun j hj => .inr (h6 j hj)), h5, h6⟩
theorem early_len (L : List Item) (a : Int) : (early L a).length + (late L a).length = L.length := by
  have := congrArg List.length (List.takeWhile_append_dropWhile (p := fun x : Item => decide (x.at' ≤ a)) (l := L))
  rw [List.length_append] at this
  exact this
theorem keysV_app (L M : List Item) : keysV (L ++ M) = keysV L ++ keysV M := by simp [keysV]
theorem keep_two {w wr w' : World} {x y Nx Ny : Nat} {Lx Ly : List Item} {Sx Sy T : Nat → Prop} (h : QOk wr x Nx Sx Lx ∧ QOk wr y Ny Sy Ly ∧ (∀ j, Sx j → ¬ Sy j) ∧ Fr (fun _ => False) w wr ∧ (∀ j, Sx j → w.heap.size ≤ j) ∧ ∀ j, Sy j → w.heap.size ≤ j)
    (f : Fr T wr w') (hT : ∀ j, T j → ¬ Sx j ∧ ¬ Sy j ∧ w.heap.size ≤ j) : QOk w' x Nx Sx Lx ∧ QOk w' y Ny Sy Ly ∧ (∀ j, Sx j → ¬ Sy j) ∧ Fr (fun _ => False) w w' ∧ (∀ j, Sx j → w.heap.size ≤ j) ∧ ∀ j, Sy j → w.heap.size ≤ j := by
  obtain ⟨h1, h2, h3, h4, h5, h6⟩ := h
  exact ⟨h1.frame f (fun j hj hs => (hT j hs).1 hj), h2.frame f (fun j hj hs => (hT j hs).2.1 hj), h3, h4.trans f (fun j hj => .inr (hT j hj).2.2), h5, h6⟩
theorem keysV_one (L : List Item) : ∀ u ∈ keysV L, u.oneCell' = true := by
  intro u hu
  obtain ⟨x, _, rfl⟩ := List.mem_map.1 hu
  rfl
set_option maxRecDepth 100000 in
set_option maxHeartbeats 4000000 in
theorem orderlaw (ka aa : Option Addr) (kn kc an ac : Nat) (ks : List ByteArray) (zs : List Int) (A B : Int) (w : World) (hkn : kn ≤ 9223372036854775807) (han : an ≤ 9223372036854775807) (hks : ks.length = kn) (hzs : zs.length = an)
    (hk : Vals w ka (ks.map Value.string)) (hz : Vals w aa (zs.map (Value.int .i64))) (hkm : ∀ k ∈ ks, k.size ≤ 9223372036854775807) (hzw : ∀ z ∈ zs, (Lit.int .i64 z).wf = true) :
    Calls Try.prog 3 #[.agg #[.slice ka kn kc, .slice aa an ac, .int .i64 A, .int .i64 B]] w fun e w' => e = .returned (.bool true) ∧ Below w.heap.size w w' := by
  obtain ⟨i0, hi, hz0, hz1, hz2⟩ := info_parts strinfo
  have I1 := Lib.hid hi; have I2 := Lib.hid hz0; have I3 := Lib.hid hz1; have I4 := Lib.hid hz2
  clear hi hz0 hz1 hz2
  have HK := Lib.hid hk
  have HZ := Lib.hid hz
  have HKM := Lib.hid hkm
  have HZW := Lib.hid hzw
  have HKS := Lib.hid hks
  have HZS := Lib.hid hzs
  clear hk hz hkm hzw hks hzs
  go_enter Try.func3, Try.ntmps3
  go_wp2_with fail
  go_quiet (fail)
  go_wp2_with fail
  with_reducible refine (new7 _).mono ?_
  rintro e w1 ⟨x, Sx, rfl, q1, f1, n1⟩
  have F1 := Lib.hid ((Fr.of_below (S := fun _ => False) (below_drewN ((Below.refl w.heap.size w).alloc (Nat.le_refl _) (.cells #[.slice ka kn kc, .slice aa an ac, .int .i64 A, .int .i64 B] 25)) nq)).trans f1 (fun _ h => (h : False).elim))
  have Q1 := Lib.hid (And.intro q1 n1)
  clear q1 f1 n1
  go_wp2_with fail
  with_reducible refine (new7 _).mono ?_
  rintro e w2 ⟨y, Sy, rfl, q2, f2, n2⟩
  have T2 := Lib.hid (two_start F1.out Q1.out.1 Q1.out.2 q2 f2 n2 (by simp))
  clear q2 f2 n2 F1 Q1
  go_upto_region 3 with fail
  go_cut [9] (fun s wx => ∃ n : Nat, n ≤ kn ∧ n ≤ an ∧ n ≤ 20 ∧ s = .int .i64 n ∧ w2 = wx)
  case first =>
    go_wp2_with fail
    all_goals go_meet
    all_goals first
      | exact ⟨20, by (split at h <;> omega), by (split at h <;> omega), by omega, rfl, rfl⟩
      | exact ⟨an, by omega, by omega, by omega, rfl, rfl⟩
      | exact ⟨kn, by omega, by omega, by omega, rfl, rfl⟩
  case rest =>
    obtain ⟨n, hn1, hn2, hn3, rfl, rfl⟩ := hcut
    go_wp2_with fail
    go_loopw [10, 11] (fun i _ wr => ∃ j : Nat, j ≤ n ∧ i = .int .i64 j ∧ Two w wr x y j j (ordL ks zs j) (ordL ks zs j)) (fun i _ _ => n - (intOf i).toNat)
    case atStart => exact ⟨0, Nat.zero_le _, rfl, T2.out⟩
    case round =>
      obtain ⟨j, hj, rfl, ht⟩ := hrel
      have T := Lib.hid ht
      clear ht T2
      obtain ⟨L, hL⟩ : ∃ L, ordL ks zs j = L := ⟨_, rfl⟩
      have HL := Lib.hid hL
      rw [hL] at T
      clear hL
      by_cases hlt : j < n
      · obtain ⟨s, hs⟩ : ∃ s, ks[j]?.getD ByteArray.empty = s := ⟨_, rfl⟩
        obtain ⟨z, hz⟩ : ∃ z, zs[j]?.getD 0 = z := ⟨_, rfl⟩
        have hL1 : ordL ks zs (j + 1) = putL L (tr s) z := by unfold ordL; rw [HL.out, hs, hz]
        have HL1 := Lib.hid hL1
        have hsm : s.size ≤ 9223372036854775807 := by rw [← hs]; exact all_getD HKM.out j (by have := HKS.out; omega)
        have hzw : (Lit.int .i64 z).wf = true := by rw [← hz]; exact all_getD HZW.out j (by have := HZS.out; omega)
        obtain ⟨b0, o0, rfl, hb0, hcs⟩ := HK.out.str j (by have := HKS.out; omega)
        obtain ⟨b1, o1, rfl, hb1, hcz⟩ := HZ.out.num j (by have := HZS.out; omega)
        rw [hs] at hcs
        rw [hz] at hcz
        obtain ⟨Sx, Sy, t⟩ := T.out
        have hcs' : wr.cell? ⟨b0, o0 + j, none⟩ = some (.string s) := by rw [(fr_below t.2.2.2.1).cell (p := ⟨b0, o0 + j, none⟩) hb0]; exact hcs
        have TT := Lib.hid t
        have HW := Lib.hid hzw
        have HCZ := Lib.hid hcz
        have hjk : (j : Int) < kn := by omega
        have hja : (j : Int) < an := by omega
        have hb1' := Lib.hid hb1
        clear hL1 hs hz hzw hcs hcz t hb0 hb1
        go_upto_region 7 with fail
        go_cut [11] (fun v wx => v = .string (tr s) ∧ Below wr.heap.size wr wx)
        case first =>
          by_cases h10 : s.size ≤ 10
          · have ht : tr s = s := by unfold tr; rw [if_pos h10]
            have HT := Lib.hid ht
            clear ht
            go_wp2_with fail
            go_quiet (fail)
            go_wp2_with fail
            go_meet
            exact ⟨by rw [HT.out], below_drewN (Below.refl _ _) _⟩
          · have ht : tr s = s.extract 0 10 := by unfold tr; rw [if_neg h10]
            have HT := Lib.hid ht
            clear ht
            go_wp2_with fail
            go_quiet (fail)
            go_wp2_with fail
            go_meet
            exact ⟨by rw [HT.out], below_drewN (Below.refl _ _) _⟩
        case rest =>
          obtain ⟨rfl, hbx⟩ := hcut
          clear hcs'
          obtain ⟨Sx, Sy, t⟩ := T.out.below hbx
          have hcz' := ((fr_below t.2.2.2.1).cell (p := ⟨b1, o1 + j, none⟩) hb1'.out).trans HCZ.out
          have T3 := Lib.hid t
          clear t hbx TT
          go_wp2_with fail
          with_reducible refine (qput x j Sx L (tr s) z _ (by omega) (Nat.le_trans (tr_le s) (by decide)) HW.out T3.out.1).mono ?_
          rintro e w4 ⟨rfl, h4⟩
          obtain ⟨Sx4, Sy4, t4⟩ := two_x T3.out h4
          have hcz' : w4.cell? ⟨b1, o1 + j, none⟩ = some (.int .i64 z) := by rw [(fr_below t4.2.2.2.1).cell (p := ⟨b1, o1 + j, none⟩) hb1'.out]; exact HCZ.out
          have T4 := Lib.hid t4
          clear t4 h4
          go_wp2_with fail
          with_reducible refine (qput y j Sy4 L (tr s) z _ (by omega) (Nat.le_trans (tr_le s) (by decide)) HW.out T4.out.2.1).mono ?_
          rintro e w5 ⟨rfl, h5⟩
          have T5 := Lib.hid (two_y T4.out h5)
          clear h5
          go_wp2_with fail
          go_roundw
          case rel => exact ⟨j + 1, by omega, by go_num, by rw [HL1.out]; exact T5.out⟩
          case measure => simp [intOf]; omega
      · obtain rfl : j = n := by omega
        clear hlt HL
        go_upto_region 10 with fail
        go_cut [5, 6] (fun sa sb wx => ∃ p q : Int, p ≤ q ∧ sa = .int .i64 p ∧ sb = .int .i64 q ∧ wr = wx)
        case first =>
          by_cases hab : A ≤ B
          · go_wp2_with fail
            all_goals go_meet
            all_goals first
              | exact ⟨A, B, by omega, rfl, rfl, rfl⟩
              | exact ⟨B, A, by omega, rfl, rfl, rfl⟩
              | exact ⟨A, A, by omega, rfl, rfl, rfl⟩
              | exact ⟨B, B, by omega, rfl, rfl, rfl⟩
              | exact ⟨A, B, by omega, rfl, by rw [show A = B from by omega], rfl⟩
          · go_wp2_with fail
            all_goals go_meet
            all_goals first
              | exact ⟨A, B, by omega, rfl, rfl, rfl⟩
              | exact ⟨B, A, by omega, rfl, rfl, rfl⟩
              | exact ⟨A, A, by omega, rfl, rfl, rfl⟩
              | exact ⟨B, B, by omega, rfl, rfl, rfl⟩
              | exact ⟨A, B, by omega, rfl, by rw [show A = B from by omega], rfl⟩
        case rest =>
          obtain ⟨p, q, hpq, rfl, rfl, rfl⟩ := hcut
          obtain ⟨Sx, Sy, t⟩ := T.out
          have TT := Lib.hid t
          clear t T
          obtain ⟨e1, e2⟩ := early_two L p q hpq
          have E1 := Lib.hid e1
          have E2 := Lib.hid e2
          clear e1 e2
          go_wp2_with fail
          with_reducible refine (qdue x j Sx L q _ (by omega) TT.out.1).mono ?_
          rintro e w3 ⟨sl1, rfl, hr1, q3, f3⟩
          rw [E1.out, List.length_append, keysV_app] at hr1
          rw [E2.out] at q3
          have t3 := due_x TT.out q3 f3
          have RL := Lib.hid (fun g hg => (hr1.lt g hg).2)
          have T3 := Lib.hid t3
          have R1 := Lib.hid hr1
          have LT := Lib.hid (fun j (h : Sy j) => TT.out.2.1.lt j h)
          clear q3 f3 t3 hr1
          go_wp2_with fail
          with_reducible refine (qdue y j Sy L p _ (by omega) T3.out.2.1).mono ?_
          rintro e w4 ⟨sl2, rfl, hr2, q4, f4⟩
          have R1' := Lib.hid (own_fr R1.out f4 (fun g hg hs => by have := (R1.out.lt g hg).1; have := LT.out g hs; omega))
          have T4 := Lib.hid (due_y T3.out q4 f4)
          have R2 := Lib.hid hr2
          have z34 := f4.size
          clear q4 f4 hr2 R1
          go_wp2_with fail
          with_reducible refine (qdue y j Sy _ q _ (by omega) T4.out.2.1).mono ?_
          rintro e w5 ⟨sl3, rfl, hr3, q5, f5⟩
          have R1 := Lib.hid (own_fr R1'.out f5 (fun g hg hs => by have := (R1'.out.lt g hg).1; have := LT.out g hs; omega))
          have R2' := Lib.hid (own_fr R2.out f5 (fun g hg hs => by have := (R2.out.lt g hg).1; have := T3.out.2.1.lt g hs; omega))
          have T5 := Lib.hid (due_y T4.out q5 f5)
          have z45 := f5.size
          obtain ⟨a3, c3, rfl, hv3, _, _, hl3, h03, _⟩ := ownsRow_vals hr3
          have V3 := Lib.hid (hv3.src hl3 h03)
          have B1 := (early_len L p)
          have B2 := (early_len (late L p) q)
          have B3 := T3.out.2.1.len
          have B4 := T4.out.2.1.len
          clear q5 f5 hr3 hv3 hl3 h03 R2 R1'
          go_wp2_with (at_builtin; refine Stop.out ?_)
          refine Stop.of (wpList_app rfl _ _ 22 rfl w3.heap.size 9 i0 (.string ByteArray.empty) 1 16 Try.underlying22 I1.out I2.out I3.out I4.out rfl (by decide) _ _ _ rfl R2'.out _ _ _ rfl V3.out (keysV_one _) (by unfold maxLen; omega) (by omega) (by omega) ?_)
          intro v6 w6 hown6 hg6
          have F6 : Fr (fun k => sl2.ownBlock = some k) w5 w6 := .of_grown hg6 (fun k h => h)
          have T6 := Lib.hid (keep_two T5.out F6 (fun k hk => ⟨fun h => by have := (R2'.out.lt k hk).1; have := T3.out.1.lt k h; omega, fun h => by have := (R2'.out.lt k hk).1; have := T3.out.2.1.lt k h; omega, by have := (R2'.out.lt k hk).1; have := T3.out.2.2.2.1.size; omega⟩))
          have R16 := own_fr R1.out F6 (fun g hg hs => by have := (R2'.out.lt g hs).1; have := RL.out g hg; omega)
          obtain ⟨a1, c1, rfl, hv1, _, _, _, _, _⟩ := ownsRow_vals R16
          obtain ⟨a6, c6, rfl, hv6, _, _, _, _, _⟩ := ownsRow_vals hown6
          have hks : keysV (early L p) ++ keysV (early (late L p) q) = (keyS (early L p) ++ keyS (early (late L p) q)).map Value.string := by rw [keysV_eq, keysV_eq, List.map_append]
          rw [hks] at hv1 hv6
          have hkl : (keyS (early L p) ++ keyS (early (late L p) q)).length = (early L p).length + (early (late L p) q).length := by simp [keyS]
          have HV1 := Lib.hid hv1
          have HV6 := Lib.hid hv6
          have HKL := Lib.hid hkl
          clear F6 R16 hv1 hv6 hks hkl hown6 hg6 R1 R2' V3 T5 T4 T3
          have hn6 : (early L p).length + (early (late L p) q).length ≤ 9223372036854775807 := by omega
          generalize (early L p).length + (early (late L p) q).length = n6 at *
          generalize keyS (early L p) ++ keyS (early (late L p) q) = K6 at *
          go_wp2_with fail
          with_reducible refine (awake10 _).mono ?_
          rintro e w7 ⟨rfl, hb7⟩
          have HV17 := Lib.hid (HV1.out.below hb7 (Nat.le_refl _))
          have HV67 := Lib.hid (HV6.out.below hb7 (Nat.le_refl _))
          have T7 := Lib.hid (keep_two T6.out (Fr.of_below (S := fun _ => False) hb7) (fun _ f => f.elim))
          clear hb7 HV1 HV6 T6
          go_wp2_with fail
          with_reducible refine (strings11 _ _ n6 _ _ K6 _ hn6 HKL.out HV17.out HV67.out).mono ?_
          rintro e w8 ⟨rfl, hb8⟩
          have T8 := Lib.hid (keep_two T7.out (Fr.of_below (S := fun _ => False) hb8) (fun _ f => f.elim))
          clear hb8 T7
          go_wp2_with fail
          with_reducible refine (len12 x j Sx _ _ T8.out.1).mono ?_
          rintro e w9 ⟨rfl, rfl⟩
          go_wp2_with fail
          with_reducible refine (len12 y j Sy _ _ T8.out.2.1).mono ?_
          rintro e w9 ⟨rfl, rfl⟩
          go_wp2_with fail
          go_ret
          exact ⟨by first | rfl | simp, fr_below T8.out.2.2.2.1⟩
theorem arg_order {w : World} {base : Nat} {v : Value} (o : Value.okWide Try.prog w .any base 25 v) (r : Reads Try.prog w 25 v.cells.toList) :
    ∃ (ka : Option Addr) (kn kc : Nat) (ks : List ByteArray) (aa : Option Addr) (an ac : Nat) (zs : List Int) (A B : Int), v = .agg #[.slice ka kn kc, .slice aa an ac, .int .i64 A, .int .i64 B] ∧ kn ≤ maxLen ∧ an ≤ maxLen ∧
      ks.length = kn ∧ zs.length = an ∧ Vals w ka (ks.map Value.string) ∧ Vals w aa (zs.map (Value.int .i64)) ∧ (∀ k ∈ ks, k.size ≤ maxLen) ∧ ∀ z ∈ zs, (Lit.int .i64 z).wf = true := by
  obtain ⟨cs, rfl, _⟩ := okWide_struct Try.underlying25 o
  obtain ⟨hl, hf⟩ := r.struct Try.underlying25
  rw [show Try.prog.cellsOf 25 = 4 from by kernel_rfl] at hl
  obtain ⟨l⟩ := cs
  match l, hl with
  | [c0, c1, c2, c3], _ =>
    simp only [List.mem_cons, List.not_mem_nil, or_false, forall_eq_or_imp, forall_eq, show Try.prog.cellsOf 3 = 1 from by kernel_rfl, show Try.prog.cellsOf 23 = 1 from by kernel_rfl, show Try.prog.cellsOf 22 = 1 from by kernel_rfl] at hf
    obtain ⟨f0, f1, f2, f3⟩ := hf
    obtain ⟨ka, kn, kc, ks, e0, h1, h2, _, h3, h4, h5⟩ := f0.strs Try.underlying22 Try.underlying9 (by kernel_rfl)
    obtain ⟨aa, an, ac, zs, e1, g1, g2, _, g3, g4, g5⟩ := f1.intsl Try.underlying23 Try.underlying3 (by kernel_rfl)
    obtain ⟨A, e2, _⟩ := f2.int Try.underlying3
    obtain ⟨B, e3, _⟩ := f3.int Try.underlying3
    simp [Value.cells] at e0 e1 e2 e3
    subst e0 e1 e2 e3
    exact ⟨ka, kn, kc, ks, aa, an, ac, zs, A, B, rfl, Nat.le_trans h1 h2, Nat.le_trans g1 g2, h3, g3, h4, g4, h5, g5⟩
theorem walkExpiryOrder (v0 : Value) (w : World) (base : Nat)
    (o0 : Value.okWide Try.prog w .any base 25 v0) (r0 : Reads Try.prog w 25 v0.cells.toList) :
    Calls Try.prog 3 #[v0] w fun e w' => e = .returned (.bool true) ∧ Below w.heap.size w w' := by
  obtain ⟨ka, kn, kc, ks, aa, an, ac, zs, A, B, rfl, h1, h2, h3, h4, h5, h6, h7, h8⟩ := arg_order o0 r0
  unfold maxLen at h1 h2 h7
  exact orderlaw ka aa kn kc an ac ks zs A B w h1 h2 h3 h4 h5 h6 h7 h8
set_option maxRecDepth 100000 in
theorem liftedExpiryOrder (os : Os) (started : os.Started) (H : Type) (enc : TypeId × Value → H) :
    ReturnsInHanded {} Try.checked os 3 .any (Rows.expiryOrderSpec.pre6 enc Try.prog Try.f3 Rows.expiryOrderRow.domain false) (Rows.expiryOrderSpec.post enc Try.prog Try.f3 false true false false) := by
  refine returnsInHanded_of_change (C := Try.checked) own started (by kernel_rfl) Try.func3
    (ChangeSpec.witness6 (enc := enc) (C := Try.checked) false ⟨#[], #[.agg #[.slice none 0 0, .slice none 0 0, .int .i64 0, .int .i64 0]], []⟩ 8 (by kernel_rfl) (by kernel_rfl) (by kernel_rfl) (by kernel_rfl)) ?_
  intro W base args ds gs before hval0 hW hcnd _
  have hval : ∀ (j : Nat) t v, Try.f3.params[j]? = some t → args[j]? = some v → Value.okWide Try.prog W .any base t v := hval0
  have hW' := hW
  obtain ⟨p, q, hA0, hV, rfl, hfz, hnd⟩ := hW
  have hA : DataW.TrodAll enc Try.prog W 0 (fun _ => true) true Try.f3.params.toList args.toList ds p := hA0
  rw [Try.params3] at hA hval
  obtain ⟨v0, vs0, d0, ds0, p0, q0, hargs, rfl, rfl, h0, r0⟩ := trodAll_cons hA
  obtain ⟨rfl, rfl, rfl⟩ := trodAll_nil r0
  obtain rfl : args = #[v0] := by cases args; simp_all
  obtain ⟨rfl, rfl⟩ := trodVars_none hV
  have lt0 : ∀ x ∈ p0, x.block < W.heap.size := by obtain ⟨m, hm⟩ := h0; exact DataW.trod_lt m _ _ _ hm
  clear hA0 hval0
  refine (walkExpiryOrder v0 W base (hval 0 25 v0 rfl rfl) (Reads.of h0)).mono fun e W' ⟨he, bel⟩ => ?_
  subst he
  exact ⟨_, rfl, _, _, _, [], _, [], hW', trodAll_mk1 (shut_bool Try.underlying4 _), (trodAll_cons_mk (Below.trod laidOut (by kernel_rfl) (of_decide_eq_true (by kernel_rfl)) h0 bel lt0) trodAll_mk0), rfl, bel.frame _, fun h => by cases h⟩

theorem overExpiryOrder : Rows.expiryOrderRow.holds Try.pinned (OpenSpec.ofChange Rows.expiryOrderSpec) :=
  OpenClaim.holds_of_wide 3 Try.f3 rfl rfl rfl rfl rfl rfl rfl ⟨rfl, rfl, rfl, rfl, rfl⟩ rfl rfl rfl rfl rfl (by kernel_rfl) Try.func3 (by kernel_rfl)
    (of_decide_eq_true (by kernel_rfl)) (by unfold Func.isWrapper; first | (rw [if_pos (by decide +kernel)]; kernel_rfl) | (rw [if_neg (by decide +kernel)]; exact ⟨rfl, rfl⟩))
    (fun os started H enc _ => liftedExpiryOrder os started H enc)

/-- The statement. -/
theorem expiryOrder_holds : Rows.ExpiryOrderSaid := overExpiryOrder
#print axioms expiryOrder_holds
end Go.Proofs.Ytmbjkkoennadkaa
