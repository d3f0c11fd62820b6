/-
  ExpiryScript: up to 50 calls agree with a list: every result, Next and Len. No condition.
-/
import Derived.Test.YtmbjkkoennadkaaExpiryOrder
import Derived.Test.YtmbjkkoennadkaaRefQ3
import Derived.Deep.CutBlock
namespace Go.Proofs.Ytmbjkkoennadkaa
open Go.RowKit Go.Maps Go.ChangeShapes Go.WideShapes Go.ChangeAt
set_option linter.unusedVariables false
theorem QOk.ri {w : World} {b N : Nat} {S : Nat → Prop} {L : List Item} (h : QOk w b N S L) : Rising L := by
  obtain ⟨v, l, mb, m, D, q, _⟩ := h
  exact q.ri
/-- the queue and the reference, on one list -/
abbrev DuoT (w wr : World) (x bm N : Nat) (L : List Item) (S R : Nat → Prop) : Prop :=
  QOk wr x N S L ∧ RL wr bm 39 2 L.length (itemCells L) R ∧ (∀ j, S j → ¬ R j) ∧ Fr (fun _ => False) w wr ∧ (∀ j, S j → w.heap.size ≤ j) ∧ ∀ j, R j → w.heap.size ≤ j
def Duo (w wr : World) (x bm N : Nat) (L : List Item) : Prop := ∃ S R, DuoT w wr x bm N L S R
theorem DuoT.keep {w wr w' : World} {x bm N : Nat} {L : List Item} {S R T : Nat → Prop} (h : DuoT w wr x bm N L S R) (f : Fr T wr w') (hT : ∀ j, T j → ¬ S j ∧ ¬ R j ∧ w.heap.size ≤ j) : DuoT w w' x bm N L S R := by
  obtain ⟨h1, h2, h3, h4, h5, h6⟩ := h
  exact ⟨h1.frame f (fun j hj hs => (hT j hs).1 hj), h2.frame f (fun j hj hs => (hT j hs).2.1 hj), h3, h4.trans f (fun j hj => .inr (hT j hj).2.2), h5, h6⟩
theorem DuoT.below {w wr w' : World} {x bm N : Nat} {L : List Item} {S R : Nat → Prop} (h : DuoT w wr x bm N L S R) (hb : Below wr.heap.size wr w') : DuoT w w' x bm N L S R := h.keep (.of_below (S := fun _ => False) hb) (fun _ f => f.elim)
theorem DuoT.next {w wr w' : World} {x bm N : Nat} {L : List Item} {S R : Nat → Prop} (h : DuoT w wr x bm N L S R) (q : QOk w' x N S L) (f : Fr S wr w') : DuoT w w' x bm N L S R := by
  obtain ⟨h1, h2, h3, h4, h5, h6⟩ := h
  exact ⟨q, h2.frame f (fun j hj hs => h3 j hs hj), h3, h4.trans f (fun j hj => .inr (h5 j hj)), h5, h6⟩
theorem Duo.below {w wr w' : World} {x bm N : Nat} {L : List Item} (h : Duo w wr x bm N L) (hb : Below wr.heap.size wr w') : Duo w w' x bm N L := by
  obtain ⟨S, R, h⟩ := h
  exact ⟨S, R, h.below hb⟩
/-- both have turned -/
theorem DuoT.step {w w1 w2 w3 : World} {x bm N N' : Nat} {L L' : List Item} {S R : Nat → Prop} (h : DuoT w w1 x bm N L S R) (k : ∃ S', QOk w2 x N' S' L' ∧ Fr S w1 w2 ∧ ∀ j, S' j → S j ∨ w1.heap.size ≤ j)
    (r : ∃ R', RL w3 bm 39 2 L'.length (itemCells L') R' ∧ Fr (fun k => k = bm) w2 w3 ∧ ∀ j, R' j → R j ∨ w2.heap.size ≤ j) : Duo w w3 x bm N' L' := by
  obtain ⟨h1, h2, h3, h4, h5, h6⟩ := h
  obtain ⟨S', k1, k2, k3⟩ := k
  obtain ⟨R', r1, r2, r3⟩ := r
  have hbm : R bm := by obtain ⟨_, _, _, rfl⟩ := h2; exact .inl rfl
  have hlt := h2.lt
  have h24 := h4.trans k2 (fun j hj => .inr (h5 j hj))
  have hS' : ∀ j, S' j → ¬ R j := fun j hj hr => by
    rcases k3 j hj with e | e
    · exact h3 j e hr
    · have := hlt j hr; omega
  refine ⟨S', R', k1.frame r2 (fun j hj hs => by cases hs; exact hS' _ hj hbm), r1, fun j hj hr => ?_, h24.trans r2 (fun j hj => by cases hj; exact .inr (h6 _ hbm)), fun j hj => ?_, fun j hj => ?_⟩
  · rcases r3 j hr with e | e
    · exact hS' j hj e
    · have := k1.lt j hj; omega
  · rcases k3 j hj with e | e
    · exact h5 j e
    · exact Nat.le_trans h4.size e
  · rcases r3 j hj with e | e
    · exact h6 j e
    · exact Nat.le_trans h24.size e
def OpCells (f : Nat → Int × Int × ByteArray) (i : Nat) : List Value := [.int .i64 (f i).1, .int .i64 (f i).2.1, .string (f i).2.2]
theorem duo_start {w w1 : World} {x : Nat} {S : Nat → Prop} (h : QOk w1 x 0 S [] ∧ Fr (fun _ => False) w w1 ∧ ∀ j, S j → w.heap.size ≤ j) : Duo w (w1.alloc (.cells #[.slice none 0 0] 39)) x w1.heap.size 0 [] := by
  obtain ⟨h1, h2, h3⟩ := h
  have hb : Below w1.heap.size w1 (w1.alloc (.cells #[.slice none 0 0] 39)) := (Below.refl _ _).alloc (Nat.le_refl _) _
  refine ⟨S, _, h1.frame (T := fun _ => False) (.of_below hb) (fun _ _ f => f), ⟨none, 0, ⟨?_, Vals.nil, rfl, Nat.le_refl _, by decide, fun _ => ⟨rfl, rfl⟩, fun x hx => by cases hx⟩, rfl⟩, fun j hj hr => ?_, h2.trans (.of_below (S := fun _ => False) hb) (fun _ f => f.elim), h3, fun j hj => ?_⟩
  · show (w1.heap.push _)[w1.heap.size]? = _
    simp
  · have := h1.lt j hj
    rcases hr with e | ⟨_, e⟩
    · omega
    · cases e
  · rcases hj with e | ⟨_, e⟩
    · rw [e]; exact h2.size
    · cases e
theorem strs_ready {w3 w4 : World} {base bm : Nat} {t : TypeId} {sl : Value} {E : List Item} (h : w3.ownsRow base t 1 sl E.length (keysV E)) (f : Fr (fun k => k = bm) w3 w4) (hb : bm < base) : ∃ a c, sl = .slice a E.length c ∧ Vals w4 a ((keyS E).map Value.string) := by
  have h4 := own_fr h f (fun g hg hs => by have := (h.lt g hg).1; omega)
  rw [keysV_eq] at h4
  obtain ⟨a, c, e, hv, _⟩ := ownsRow_vals h4
  exact ⟨a, c, e, hv⟩
theorem strs_now {w4 : World} {base : Nat} {t : TypeId} {sl : Value} {E : List Item} (h : w4.ownsRow base t 1 sl E.length (keysV E)) : ∃ a c, sl = .slice a E.length c ∧ Vals w4 a ((keyS E).map Value.string) := by
  rw [keysV_eq] at h
  obtain ⟨a, c, e, hv, _⟩ := ownsRow_vals h
  exact ⟨a, c, e, hv⟩
theorem op_boxed (wr : World) (kd z : Int) (s s' : ByteArray) (t : TypeId) : (Value.pointer (some ⟨wr.heap.size, 0, none⟩)) = .pointer (some ⟨wr.heap.size, 0, none⟩) ∧
    (wr.alloc (.cells #[.int .i64 kd, .int .i64 z, .string s'] t)).heap[wr.heap.size]? = some (.cells #[.int .i64 kd, .int .i64 z, .string s'] t (0, 0)) ∧ Below wr.heap.size wr (wr.alloc (.cells #[.int .i64 kd, .int .i64 z, .string s'] t)) :=
  ⟨rfl, by show (wr.heap.push _)[wr.heap.size]? = _; simp, (Below.refl _ _).alloc (Nat.le_refl _) _⟩
set_option maxRecDepth 100000 in
set_option maxHeartbeats 4000000 in
theorem scriptlaw18 (a : Option Addr) (len cap : Nat) (f : Nat → Int × Int × ByteArray) (w : World) (hl : len ≤ 9223372036854775807) (hr : RowsAt w 3 a len (OpCells f)) (hk : ∀ i, i < len → (f i).2.2.size ≤ 9223372036854775807) (hz : ∀ i, i < len → (Lit.int .i64 (f i).2.1).wf = true) :
    Calls Try.prog 5 #[.slice a len cap] w fun e w' => e = .returned (.bool true) ∧ Below w.heap.size w w' := by
  have HR := Lib.hid hr
  have HK := Lib.hid hk
  have HZ := Lib.hid hz
  clear hr hk hz
  go_enter Try.func5, Try.ntmps5
  go_wp2_with fail
  with_reducible refine (new7 _).mono ?_
  rintro e w1 ⟨x, S, rfl, q1, f1, n1⟩
  have Q1 := Lib.hid (And.intro q1 (And.intro f1 n1))
  clear q1 f1 n1
  go_wp2_with fail
  have D0 : Hid (Duo w (w1.alloc (.cells #[.slice none 0 0] 39)) x w1.heap.size 0 []) := Lib.hid (duo_start Q1.out)
  obtain ⟨bm, hbm⟩ : ∃ bm, w1.heap.size = bm := ⟨_, rfl⟩
  rw [hbm] at D0
  obtain ⟨w2, hw2⟩ : ∃ w2, w1.alloc (.cells #[.slice none 0 0] 39) = w2 := ⟨_, rfl⟩
  rw [hw2] at D0
  rw [hw2, hbm]
  clear hw2 hbm Q1
  go_loopg [5, 6, 7, 8, 9] len (fun gk i _ _ _ _ wr => ∃ (k : Nat) (N : Nat) (L : List Item), k ≤ len ∧ k ≤ 50 ∧ gk + k = len ∧ i = .int .i64 k ∧ N ≤ k ∧ Duo w wr x bm N L)
  case atStart => exact ⟨0, 0, [], Nat.zero_le _, Nat.zero_le _, rfl, rfl, Nat.le_refl _, D0.out⟩
  case round =>
    obtain ⟨k, N, L, hk, hk50, hgk, rfl, hN, hd⟩ := hrel
    have HD := Lib.hid hd
    have HGK := Lib.hid hgk
    clear hd hgk D0
    by_cases hlt : k < len ∧ k < 50
    · obtain ⟨hlt, hlt50⟩ := hlt
      obtain ⟨⟨kd, z, s⟩, hfk⟩ : ∃ y, f k = y := ⟨_, rfl⟩
      have hs := HK.out k hlt
      have hzw := HZ.out k hlt
      obtain ⟨b0, o0, rfl, hb0, hcs⟩ := HR.out k hlt
      rw [hfk] at hs hzw
      obtain ⟨S, R, hd⟩ := HD.out
      have hcell : ∀ j, j < 3 → wr.cell? ⟨b0, o0 + (k * 3 + j), none⟩ = ([.int .i64 kd, .int .i64 z, .string s] : List Value)[j]? := fun j hj => by
        rw [(fr_below hd.2.2.2.1).cell (p := ⟨b0, o0 + (k * 3 + j), none⟩) hb0, hcs j hj]
        unfold OpCells; rw [hfk]
      have d0 := hcell 0 (by omega)
      have d1 := hcell 1 (by omega)
      have d2 := hcell 2 (by omega)
      simp only [List.getElem?_cons_zero, List.getElem?_cons_succ, Nat.add_zero, ← Nat.add_assoc] at d0 d1 d2
      have HW := Lib.hid hzw
      have DT := Lib.hid hd
      have hkk : (k : Int) < len := by omega
      clear hfk hzw hcs hd hcell
      go_upto_region 6 with fail
      go_cut [6] (fun v wx => v = .pointer (some ⟨wr.heap.size, 0, none⟩) ∧ wx.heap[wr.heap.size]? = some (.cells #[.int .i64 kd, .int .i64 z, .string (tr s)] 41 (0, 0)) ∧ Below wr.heap.size wr wx)
      case first =>
        by_cases h10 : s.size ≤ 10
        · have ht : tr s = s := by unfold tr; rw [if_pos h10]
          have HT := Lib.hid ht
          clear ht
          go_wp2_with fail
          go_meet
          rw [HT.out]
          exact op_boxed wr kd z s s _
        · have ht : tr s = s.extract 0 10 := by unfold tr; rw [if_neg h10]
          have HT := Lib.hid ht
          clear ht
          go_wp2_with fail
          go_meet
          rw [HT.out]
          exact op_boxed wr kd z s _ _
      case rest =>
        obtain ⟨rfl, ho, hbx⟩ := hcut
        clear d0 d1 d2
        have hsz := blk_lt ho
        have o0 := blk_cell (i := 0) ho
        have o1 := blk_cell (i := 1) ho
        have o2 := blk_cell (i := 2) ho
        simp only [List.getElem?_toArray, List.getElem?_cons_zero, List.getElem?_cons_succ] at o0 o1 o2
        have DT1 := Lib.hid (DT.out.below hbx)
        have HO := Lib.hid ho
        obtain ⟨bo, hbo⟩ : ∃ bo, wr.heap.size = bo := ⟨_, rfl⟩
        have SN := Lib.hid (show ∀ j, S j → j ≠ bo from fun j hj e => by have := DT.out.1.lt j hj; omega)
        have RN := Lib.hid (show ∀ j, R j → j ≠ bo from fun j hj e => by have := DT.out.2.1.lt j hj; omega)
        rw [hbo] at o0 o1 o2 HO hsz ⊢
        clear ho hbx hbo
        go_upto_block 2 with fail
        have hL := DT1.out.1.len
        have HRI := Lib.hid DT1.out.1.ri.keys
        have RQ := Lib.hid (fun (W : World) (f : Fr S wc W) => DT1.out.2.1.frame f (fun j hr hs => DT1.out.2.2.1 j hs hr))
        go_cut [] (fun wx => ∃ N' L', N' ≤ k + 1 ∧ Duo w wx x bm N' L')
        case first =>
          by_cases h0 : kd = 0
          · have hb0 : (kd == 0) = true := by simp [h0]
            clear h0
            go_wp2_with fail
            with_reducible refine (qput x N S L (tr s) z _ (by omega) (Nat.le_trans (tr_le s) (by decide)) HW.out DT1.out.1).mono ?_
            rintro e w3 ⟨rfl, S3, q3, f3, n3⟩
            have o1' : w3.cell? ⟨bo, 1, none⟩ = some (.int .i64 z) := (World.cell?_of_block (a := ⟨bo, 1, none⟩) (f3.block bo hsz (fun h => SN.out bo h rfl))).trans o1
            have o2' : w3.cell? ⟨bo, 2, none⟩ = some (.string (tr s)) := (World.cell?_of_block (a := ⟨bo, 2, none⟩) (f3.block bo hsz (fun h => SN.out bo h rfl))).trans o2
            have RP := Lib.hid (rput13 bm R L (tr s) z w3 (by omega) HRI.out (RQ.out _ f3))
            have K3 := Lib.hid (show ∃ S', QOk w3 x (N + 1) S' (putL L (tr s) z) ∧ Fr S wc w3 ∧ ∀ j, S' j → S j ∨ wc.heap.size ≤ j from ⟨S3, q3, f3, n3⟩)
            clear q3 f3 n3 o1 o2 o0
            go_wp2_with fail
            with_reducible refine RP.out.mono ?_
            rintro e w4 ⟨rfl, r4⟩
            have D4 := Lib.hid (DT1.out.step K3.out r4)
            clear r4 o1' o2'
            go_wp2_with fail
            go_meet
            exact ⟨N + 1, _, by omega, D4.out⟩
          · have hb0 : (kd == 0) = false := by simp [h0]
            clear h0
            by_cases h1 : kd = 1
            · have hb1 : (kd == 1) = true := by simp [h1]
              clear h1
              go_wp2_with fail
              with_reducible refine (qremove x N S L (tr s) (Nat.le_trans (tr_le s) (by decide)) _ DT1.out.1).mono ?_
              rintro e w3 ⟨rfl, q3, f3⟩
              have o2' : w3.cell? ⟨bo, 2, none⟩ = some (.string (tr s)) := (World.cell?_of_block (a := ⟨bo, 2, none⟩) (f3.block bo hsz (fun h => SN.out bo h rfl))).trans o2
              have RP := Lib.hid (rremove15 bm R L (tr s) w3 (by omega) HRI.out (RQ.out _ f3))
              have K3 := Lib.hid (show ∃ S', QOk w3 x N S' (remL L (tr s)) ∧ Fr S wc w3 ∧ ∀ j, S' j → S j ∨ wc.heap.size ≤ j from ⟨S, q3, f3, fun j h => .inl h⟩)
              clear q3 f3 o1 o2 o0
              go_wp2_with fail
              with_reducible refine RP.out.mono ?_
              rintro e w4 ⟨rfl, r4⟩
              have D4 := Lib.hid (DT1.out.step K3.out r4)
              clear r4 o2'
              go_wp2_with fail
              go_meet
              exact ⟨N, _, by omega, D4.out⟩
            · have hb1 : (kd == 1) = false := by simp [h1]
              clear h1
              have DTd := Lib.hid (DT1.out.below (w' := wc.drew) ((Below.refl _ _).drew))
              have QD := Lib.hid (qdue x N S L z wc.drew (by omega) DTd.out.1)
              have RD := Lib.hid (fun (W : World) (f : Fr S wc.drew W) => rdue16 bm R L z W (by omega) (DTd.out.2.1.frame f (fun j hr hs => DTd.out.2.2.1 j hs hr)))
              have CK := Lib.hid (fun (W : World) (f : Fr S wc.drew W) => ((World.cell?_of_block (a := ⟨bo, 1, none⟩) (f.block bo hsz (fun h => SN.out bo h rfl))).trans o1 : W.cell? ⟨bo, 1, none⟩ = some (.int .i64 z)))
              have hbmR : R bm := by obtain ⟨_, _, _, e⟩ := DT1.out.2.1; rw [e]; exact .inl rfl
              have HBM := Lib.hid (RN.out bm hbmR)
              have HBL := Lib.hid (show bm < wc.drew.heap.size from DT1.out.2.1.lt bm hbmR)
              have HEK := Lib.hid (show (keyS (early L z)).length = (early L z).length by simp [keyS])
              have HEN := Lib.hid (show (early L z).length ≤ 9223372036854775807 by have := early_len L z; omega)
              clear hbmR
              go_wp2_with fail
              go_region_held3 (fun w' => w'.cell? ⟨bo, 1, none⟩ = some (.int .i64 z)) (first | exact o1 | assumption)
                (first
                  | (go_at_call 9; (with_reducible refine QD.out.mono ?_); rintro e w3 ⟨sl, rfl, hr3, q3, f3⟩; have hS3 := CK.out _ f3)
                  | (go_at_call 16; (with_reducible refine (RD.out _ f3).mono ?_); rintro e w4 ⟨sl4, rfl, hr4, q4, f4⟩; have hS4 := (World.cell?_of_block (a := ⟨bo, 1, none⟩) (f4.block bo (Nat.lt_of_lt_of_le hsz f3.size) HBM.out.symm)).trans hS3; (obtain ⟨a3, c3, rfl, hv3⟩ := strs_ready hr3 f4 HBL.out); (obtain ⟨a4, c4, rfl, hv4⟩ := strs_now hr4))
                  | (go_at_call 11; (with_reducible refine (strings11 _ _ _ _ _ (keyS (early L z)) _ HEN.out HEK.out hv3 hv4).mono ?_); rintro e w5 ⟨rfl, hb5⟩; have hS5 := (World.cell?_of_block (a := ⟨bo, 1, none⟩) (hb5.block bo (Nat.lt_of_lt_of_le (Nat.lt_of_lt_of_le hsz f3.size) f4.size))).trans hS4))
              all_goals
                have D5 := Lib.hid (Duo.below (DTd.out.step ⟨S, q3, f3, fun j h => .inl h⟩ ⟨R, q4, f4, fun j h => .inl h⟩) hb5)
                clear q3 f3 q4 f4 hb5 hr3 hr4 hS3 hS4 hS5 hv3 hv4 o0 o1 o2
                go_wp2_with fail
                go_meet
                exact ⟨N, _, by omega, D5.out⟩
        case rest =>
          obtain ⟨N', L', hN', hd'⟩ := hcut
          have DD := Lib.hid hd'
          clear hd' o0 o1 o2 hsz hL HO
          obtain ⟨S', R', dt⟩ := DD.out
          have D2 := Lib.hid dt
          clear dt
          go_wp2_with fail
          with_reducible refine (qnext x N' S' L' _ (by omega) D2.out.1).mono ?_
          rintro e w4 ⟨rfl, q4, f4⟩
          have D4 := Lib.hid (DuoT.next D2.out q4 f4)
          clear q4 f4
          have hb' := D4.out.1.len
          obtain ⟨a, cp, p, hR⟩ := D4.out.2.1
          have c0 := blk_cell (i := 0) p.blk
          simp only [List.getElem?_toArray, List.getElem?_cons_zero] at c0
          have P := Lib.hid p
          have LN := Lib.hid (fun W (f : Fr (fun _ => False) w4 W) => len12 x N' S' L' W (D4.out.1.frame f (fun _ _ f => f)))
          clear p hR
          cases L' with
          | nil =>
            simp only [nextA, nextB, List.length_nil] at c0 ⊢
            have LN2 := Lib.hid (fun (n : Nat) => LN.out (w4.drewN n) (.drewN (.refl _ _) n))
            simp only [List.length_nil] at LN2
            go_wp2_with fail
            go_quiet ((go_at_call 12; exact Calls.quiet_of_same ((LN2.out _).mono fun e w' hw => ⟨hw.1, hw.2.symm⟩)))
            go_wp2_with fail
            go_roundg (len - (k + 1))
            case measure => have := HGK.out; omega
            case rel => exact ⟨k + 1, N', [], by omega, by omega, by omega, by go_num, by omega, S', R', D4.out.below (below_drewN (Below.refl _ _) _)⟩
          | cons y L3 =>
            obtain ⟨n, hn⟩ : ∃ n, L3.length = n := ⟨_, rfl⟩
            have HN := Lib.hid hn
            obtain ⟨g, off, rfl, hg, e1⟩ := P.out.vals.at 1 (v := .int .i64 y.at') rfl
            simp only [nextA, nextB, List.length_cons, hn] at c0 hb' ⊢
            have LN2 := Lib.hid (fun (m : Nat) => LN.out (w4.drewN m) (.drewN (.refl _ _) m))
            simp only [List.length_cons, hn] at LN2
            clear hn
            have hne : (y.at' != y.at') = false := by simp
            have hn0 : (0 : Int) < n + 1 := by omega
            go_wp2_with fail
            go_quiet ((go_at_call 12; exact Calls.quiet_of_same ((LN2.out _).mono fun e w' hw => ⟨hw.1, hw.2.symm⟩)))
            go_wp2_with fail
            go_roundg (len - (k + 1))
            case measure => have := HGK.out; omega
            case rel => exact ⟨k + 1, N', y :: L3, by omega, by omega, by omega, by go_num, by omega, S', R', D4.out.below (below_drewN (Below.refl _ _) _)⟩
    · obtain ⟨S, R, dt⟩ := HD.out
      have D2 := Lib.hid dt
      clear dt
      by_cases hkl : k < len
      all_goals
        have hex : ¬ (k < len ∧ k < 50) := hlt
        first
          | (have h50 : 50 ≤ k := by omega)
          | (have h50 : len ≤ k := by omega)
        clear hlt hex
        go_wp2_with fail
        with_reducible refine (awake10 _).mono ?_
        rintro e w6 ⟨rfl, hb6⟩
        have D6 := Lib.hid (D2.out.below hb6)
        clear hb6
        go_wp2_with fail
        go_ret
        exact ⟨rfl, fr_below D6.out.2.2.2.1⟩
theorem Reads.op18 {w : World} {cs : List Value} (h : Reads Try.prog w 41 cs) : ∃ (k n : Int) (s : ByteArray), cs = [.int .i64 k, .int .i64 n, .string s] ∧ (Lit.int .i64 n).wf = true ∧ s.size ≤ maxLen := by
  obtain ⟨hl, hf⟩ := h.struct Try.underlying41
  rw [show Try.prog.cellsOf 41 = 3 from by kernel_rfl] at hl
  match cs, hl with
  | [c0, c1, c2], _ =>
    simp only [List.mem_cons, List.not_mem_nil, or_false, forall_eq_or_imp, forall_eq, show Try.prog.cellsOf 3 = 1 from by kernel_rfl, show Try.prog.cellsOf 9 = 1 from by kernel_rfl] at hf
    obtain ⟨f0, f1, f2⟩ := hf
    obtain ⟨k, e0, _⟩ := f0.int Try.underlying3
    obtain ⟨n, e1, hn⟩ := f1.int Try.underlying3
    obtain ⟨s, e2, hs⟩ := f2.string Try.underlying9
    simp at e0 e1 e2
    subst e0 e1 e2
    exact ⟨k, n, s, rfl, hn, hs⟩
theorem walkExpiryScript (v0 : Value) (w : World) (base : Nat)
    (o0 : Value.okWide Try.prog w .any base 35 v0) (r0 : Reads Try.prog w 35 v0.cells.toList) :
    Calls Try.prog 5 #[v0] w fun e w' => e = .returned (.bool true) ∧ Below w.heap.size w w' := by
  obtain ⟨a, len, cap, g, rfl, h1, h2, h3, h4, h5⟩ := arg_rows Try.underlying35 (show Try.prog.cellsOf 41 = 3 from by kernel_rfl) (by omega) o0 r0
  have key : ∀ i, ∃ y : Int × Int × ByteArray, i < len → g i = [.int .i64 y.1, .int .i64 y.2.1, .string y.2.2] ∧ (Lit.int .i64 y.2.1).wf = true ∧ y.2.2.size ≤ maxLen := by
    intro i
    by_cases hi : i < len
    · obtain ⟨k, n, s, e, hn, hs⟩ := (h5 i hi).2.op18
      exact ⟨(k, n, s), fun _ => ⟨e, hn, hs⟩⟩
    · exact ⟨(0, 0, ByteArray.empty), fun h => (hi h).elim⟩
  obtain ⟨f, hf⟩ := Classical.axiomOfChoice key
  refine scriptlaw18 a len cap f w (by omega) (fun i hi => ?_) (fun i hi => ?_) (fun i hi => (hf i hi).2.1)
  · obtain ⟨b, off, ha, hlt, hc⟩ := h4 i hi
    refine ⟨b, off, ha, hlt, fun j hj => ?_⟩
    rw [hc j hj, (hf i hi).1]; rfl
  · have := (hf i hi).2.2
    unfold maxLen at this
    exact this
set_option maxRecDepth 100000 in
theorem liftedExpiryScript (os : Os) (started : os.Started) (H : Type) (enc : TypeId × Value → H) :
    ReturnsInHanded {} Try.checked os 5 .any (Rows.expiryScriptSpec.pre6 enc Try.prog Try.f5 Rows.expiryScriptRow.domain false) (Rows.expiryScriptSpec.post enc Try.prog Try.f5 false true false false) := by
  refine returnsInHanded_of_change (C := Try.checked) own started (by kernel_rfl) Try.func5
    (ChangeSpec.witness6 (enc := enc) (C := Try.checked) false ⟨#[], #[.slice none 0 0], []⟩ 8 (by kernel_rfl) (by kernel_rfl) (by kernel_rfl) (by kernel_rfl)) ?_
  intro W base args ds gs before hval0 hW hcnd _
  have hval : ∀ (j : Nat) t v, Try.f5.params[j]? = some t → args[j]? = some v → Value.okWide Try.prog W .any base t v := hval0
  have hW' := hW
  obtain ⟨p, q, hA0, hV, rfl, hfz, hnd⟩ := hW
  have hA : DataW.TrodAll enc Try.prog W 0 (fun _ => true) true Try.f5.params.toList args.toList ds p := hA0
  rw [Try.params5] at hA hval
  obtain ⟨v0, vs0, d0, ds0, p0, q0, hargs, rfl, rfl, h0, r0⟩ := trodAll_cons hA
  obtain ⟨rfl, rfl, rfl⟩ := trodAll_nil r0
  obtain rfl : args = #[v0] := by cases args; simp_all
  obtain ⟨rfl, rfl⟩ := trodVars_none hV
  have lt0 : ∀ x ∈ p0, x.block < W.heap.size := by obtain ⟨m, hm⟩ := h0; exact DataW.trod_lt m _ _ _ hm
  clear hA0 hval0
  refine (walkExpiryScript v0 W base (hval 0 35 v0 rfl rfl) (Reads.of h0)).mono fun e W' ⟨he, bel⟩ => ?_
  subst he
  exact ⟨_, rfl, _, _, _, [], _, [], hW', trodAll_mk1 (shut_bool Try.underlying4 _), (trodAll_cons_mk (Below.trod laidOut (by kernel_rfl) (of_decide_eq_true (by kernel_rfl)) h0 bel lt0) trodAll_mk0), rfl, bel.frame _, fun h => by cases h⟩

theorem overExpiryScript : Rows.expiryScriptRow.holds Try.pinned (OpenSpec.ofChange Rows.expiryScriptSpec) :=
  OpenClaim.holds_of_wide 5 Try.f5 rfl rfl rfl rfl rfl rfl rfl ⟨rfl, rfl, rfl, rfl, rfl⟩ rfl rfl rfl rfl rfl (by kernel_rfl) Try.func5 (by kernel_rfl)
    (of_decide_eq_true (by kernel_rfl)) (by unfold Func.isWrapper; first | (rw [if_pos (by decide +kernel)]; kernel_rfl) | (rw [if_neg (by decide +kernel)]; exact ⟨rfl, rfl⟩))
    (fun os started H enc _ => liftedExpiryScript os started H enc)

/-- The statement. -/
theorem expiryScript_holds : Rows.ExpiryScriptSaid := overExpiryScript
#print axioms expiryScript_holds
end Go.Proofs.Ytmbjkkoennadkaa
