/-
  The contract of insertionSortCmpFunc at regions, with the function literal of slots.Order.
-/
import Derived.Test.YtkafffoaaklhiaaSortReg
import Derived.Deep.DeepCutAuto
import Derived.BigQuiet
import Derived.Deep.LoopGhost
import Derived.Deep.QuietTactic
namespace Go.Proofs.Ytkafffoaaklhiaa
open Go.RowKit
set_option linter.unusedVariables false
set_option maxHeartbeats 1000000 in
theorem ordlit (x y : Reg) (w : World) : Calls Try.prog 36 #[.agg #[.int .i64 x.ver, .int .i64 x.slot, .int .i64 x.lay, .int .i64 x.seq, .int .i64 x.tail, .int .i64 x.now, .int .i64 x.l.id, .int .i64 x.l.ver, .int .i64 x.l.rs, .int .i64 x.l.rg],
      .agg #[.int .i64 y.ver, .int .i64 y.slot, .int .i64 y.lay, .int .i64 y.seq, .int .i64 y.tail, .int .i64 y.now, .int .i64 y.l.id, .int .i64 y.l.ver, .int .i64 y.l.rs, .int .i64 y.l.rg]] w
    fun e w' => e = .returned (.int .i64 (cmpI x.seq y.seq)) ∧ Below w.heap.size w w' := by
  go_enter Try.func36, Try.ntmps36
  go_wp2_with fail
  with_reducible refine (cmpint _ _ _).mono ?_
  rintro e w1 ⟨rfl, rfl⟩
  go_wp2_with fail
  go_ret
  exact ⟨rfl, (((Below.refl _ _).alloc (Nat.le_refl _) _).alloc (by simp) _)⟩
def ordV : Value := .func (.func 36) #[] #[]
structure SortW (w wr : World) (g n cap : Nat) (l : List Reg) : Prop where
  own : wr.ownsRow 0 36 10 (.slice (some ⟨g, 0, none⟩) n cap) n (regC l)
  fr : Fr (fun j => j = g) w wr
theorem SortW.below {w wr w' : World} {g n cap : Nat} {l : List Reg} (h : SortW w wr g n cap l) (hb : Below wr.heap.size wr w') : SortW w w' g n cap l := by
  have hf : Fr (fun _ => False) wr w' := .of_below hb
  exact ⟨own_fr h.own hf (fun _ _ f => f), h.fr.trans hf (fun _ f => f.elim)⟩
theorem SortW.swap {w wr : World} {g n cap j : Nat} {S : List Reg} {r x : Reg} {rest : List Reg} (h : SortW w wr g n cap (midR S r (j + 1) rest)) (hx : S[j]? = some x) : SortW w (set10 (set10 wr g (j + 1) x) g j r).drew g n cap (midR S r j rest) := by
  obtain ⟨o1, f1⟩ := own_set10 h.own (j + 1) x
  obtain ⟨o2, f2⟩ := own_set10 o1 j r
  rw [(midR_at hx).2.2] at o2
  have h2 : SortW w (set10 (set10 wr g (j + 1) x) g j r) g n cap (midR S r j rest) := ⟨o2, (h.fr.trans f1 (fun _ e => .inl e)).trans f2 (fun _ e => .inl e)⟩
  exact h2.below (Below.refl _ _).drew
theorem cmp_neg (a b : Int) : (cmpI a b < 0) ↔ a < b := by
  unfold cmpI
  split
  · simp; omega
  · split <;> omega
theorem sort_start (l : List Reg) : sortR (l.take 1) ++ l.drop 1 = l := by
  cases l with
  | nil => rfl
  | cons x l => rfl
theorem mid_start {l : List Reg} {i : Nat} {r : Reg} (hr : l[i]? = some r) : sortR (l.take i) ++ l.drop i = midR (sortR (l.take i)) r i (l.drop (i + 1)) := by
  obtain ⟨hi, er⟩ := List.getElem?_eq_some_iff.1 hr
  have hl : (sortR (l.take i)).length = i := by rw [(sort_all _).2.2, List.length_take]; omega
  generalize sortR (l.take i) = S at *
  unfold midR
  have hd : S.drop i = [] := List.drop_of_length_le (by omega)
  rw [List.take_of_length_le (by omega), hd]
  have : l.drop i = r :: l.drop (i + 1) := by rw [← er, List.getElem_cons_drop]
  rw [this]; simp
theorem mid_end {l : List Reg} {i j : Nat} {r : Reg} (hr : l[i]? = some r) (hj : j ≤ i) (h1 : ∀ x ∈ (sortR (l.take i)).drop j, r.seq < x.seq) (h2 : ∀ x ∈ (sortR (l.take i)).take j, x.seq ≤ r.seq) :
    midR (sortR (l.take i)) r j (l.drop (i + 1)) = sortR (l.take (i + 1)) ++ l.drop (i + 1) := by
  obtain ⟨hi, er⟩ := List.getElem?_eq_some_iff.1 hr
  have hl : (sortR (l.take i)).length = i := by rw [(sort_all _).2.2, List.length_take]; omega
  unfold midR
  rw [ins_at (sort_all _).1 j (by omega) h1 h2, ← sort_step]
  congr 2
  rw [List.take_add_one, hr]; rfl
set_option maxRecDepth 100000 in
set_option maxHeartbeats 8000000 in
theorem inssort (g n cap : Nat) (l : List Reg) (w : World) (hl : l.length = n) (hn : n ≤ 1000) (hown : w.ownsRow 0 36 10 (.slice (some ⟨g, 0, none⟩) n cap) n (regC l)) :
    Calls Try.prog 48 #[.slice (some ⟨g, 0, none⟩) n cap, .int .i64 0, .int .i64 (n : Int), ordV] w fun e w' => e = .returned (.tuple #[]) ∧ SortW w w' g n cap (sortR l) := by
  have W0 := Lib.hid (show SortW w w g n cap l from ⟨hown, .refl _ _⟩)
  have HL := Lib.hid hl
  clear hown hl
  unfold ordV
  go_enter Try.func48, Try.ntmps48
  go_wp2_with fail
  go_loopg [8, 9] (n - 1) (fun gk iv _ wr => ∃ i : Nat, iv = .int .i64 (i : Int) ∧ 1 ≤ i ∧ (i ≤ n ∨ n = 0 ∧ i = 1) ∧ gk = n - i ∧ SortW w wr g n cap (sortR (l.take i) ++ l.drop i))
  case atStart => exact ⟨1, rfl, Nat.le_refl _, by omega, rfl, by rw [sort_start]; exact W0.out⟩
  case round =>
    obtain ⟨i, rfl, hi1, hin, hgk, hs⟩ := hrel
    have GK := Lib.hid hgk
    have HS := Lib.hid hs
    clear hs hgk W0
    by_cases hlt : i < n
    · obtain ⟨r, hr⟩ : ∃ r, l[i]? = some r := ⟨_, List.getElem?_eq_getElem (by rw [HL.out]; exact hlt)⟩
      have M0 := HS.out
      rw [mid_start hr] at M0
      have hSl : (sortR (l.take i)).length = i := by rw [(sort_all _).2.2, List.length_take, HL.out]; omega
      have ME := Lib.hid (fun j => mid_end (j := j) hr)
      have hsrt := Lib.hid (sort_all (l.take i)).1
      obtain ⟨S, hSe⟩ : ∃ S, sortR (l.take i) = S := ⟨_, rfl⟩
      rw [hSe] at M0 hSl ME hsrt
      obtain ⟨rest, hre⟩ : ∃ rest, l.drop (i + 1) = rest := ⟨_, rfl⟩
      have MH := Lib.hid M0
      rw [hre] at MH
      have HR := Lib.hid hre
      clear hr hSe M0 HS hre
      have hltI : (i : Int) < n := by omega
      go_wp2_with fail
      go_loopg [9] i (fun gk jv wr' => ∃ j : Nat, jv = .int .i64 (j : Int) ∧ j = gk ∧ j ≤ i ∧ Hid (∀ x ∈ S.drop j, r.seq < x.seq) ∧ SortW w wr' g n cap (midR S r j rest))
      case atStart => exact ⟨i, rfl, rfl, Nat.le_refl _, Lib.hid (fun x hx => by rw [List.drop_of_length_le (by omega)] at hx; cases hx), MH.out⟩
      case round =>
        obtain ⟨j, rfl, hjg, hji, hbig, hs⟩ := hrel
        have HS := Lib.hid hs
        have GJ := Lib.hid hjg
        clear hs hjg MH
        by_cases hj0 : j = 0
        · subst hj0
          have FIN := Lib.hid (show SortW w wr g n cap (sortR (l.take (i + 1)) ++ l.drop (i + 1)) from by rw [← ME.out 0 (Nat.zero_le _) hbig.out (fun x hx => by simp at hx), HR.out]; exact HS.out)
          go_wp2_with fail
          go_quiet (fail)
          go_wp2_with fail
          have FIN2 := Lib.hid (FIN.out.below (below_drewN (Below.refl _ _) nq))
          go_roundg (n - (i + 1))
          case measure => have := GK.out; omega
          case rel => exact ⟨i + 1, by go_num, by omega, by omega, rfl, FIN2.out⟩
        · obtain ⟨j', rfl⟩ : ∃ j', j = j' + 1 := ⟨j - 1, by omega⟩
          obtain ⟨x, hx⟩ : ∃ x, S[j']? = some x := ⟨_, List.getElem?_eq_getElem (by omega)⟩
          obtain ⟨m1, m2, m3⟩ := midR_at (r := r) (rest := rest) hx
          obtain ⟨⟨a0, a1, a2, a3, a4, a5, a6, a7, a8, a9⟩, hfz⟩ := own_reg HS.out.own (j' + 1) r m1
          obtain ⟨⟨b0, b1, b2, b3, b4, b5, b6, b7, b8, b9⟩, _⟩ := own_reg HS.out.own j' x m2
          have hgw := (HS.out.own.lt g rfl).2
          have OL := Lib.hid (fun W => ordlit r x W)
          have hjI : ((j' : Int) + 1) < n := by omega
          have hjI2 : (j' : Int) < n := by omega
          have HX := Lib.hid hx
          clear hj0 m1 m2 m3 hx
          go_wp2_with fail
          refine wp_region_ext wr.heap.size (by kernel_rfl) (by kernel_rfl) ?_
          have hx := fun (x : Ext wr.heap.size wr) b o h => Ext.cell x b o h
          repeat (go_big_quiet_step (first | (go_at_call 36; with_reducible exact Calls.ext (Nat.le_refl _) (OL.out _)) | (with_reducible exact rfl)))
          refine wpQuiet_nil ?_
          rintro w4 ⟨⟨w5, hb⟩, (he : w4 = w5)⟩
          subst he
          have H3 := Lib.hid (HS.out.below hb)
          clear hx a0 a1 a2 a3 a4 a5 a6 a7 a8 a9 b0 b1 b2 b3 b4 b5 b6 b7 b8 b9 hfz hb hgw OL
          by_cases hc : r.seq < x.seq
          · have hdec : decide (cmpI r.seq x.seq < 0) = true := by rw [decide_eq_true_iff, cmp_neg]; exact hc
            have BIG := Lib.hid (show ∀ y ∈ S.drop j', r.seq < y.seq from fun y hy => by
              have e : S.drop j' = x :: S.drop (j' + 1) := by
                obtain ⟨h0, ex⟩ := List.getElem?_eq_some_iff.1 HX.out
                rw [← ex, List.getElem_cons_drop]
              rw [e] at hy
              rcases List.mem_cons.1 hy with rfl | hy
              · exact hc
              · exact hbig.out y hy)
            have SW := Lib.hid (fun W (h : set10 (set10 w4 g (j' + 1) x) g j' r = W) => show SortW w W.drew g n cap (midR S r j' rest) from h ▸ H3.out.swap HX.out)
            obtain ⟨m1, m2, m3⟩ := midR_at (r := r) (rest := rest) HX.out
            obtain ⟨⟨a0, a1, a2, a3, a4, a5, a6, a7, a8, a9⟩, hfz⟩ := own_reg H3.out.own (j' + 1) r m1
            obtain ⟨⟨b0, b1, b2, b3, b4, b5, b6, b7, b8, b9⟩, _⟩ := own_reg H3.out.own j' x m2
            clear m1 m2 m3 hc
            rw [hdec]
            go_wp2_with fail
            go_region
            obtain ⟨W, hW⟩ : ∃ W, set10 (set10 w4 g (j' + 1) x) g j' r = W := ⟨_, rfl⟩
            have SWW := Lib.hid (SW.out W hW)
            unfold set10 at hW
            rw [hW]
            clear hW SW a0 a1 a2 a3 a4 a5 a6 a7 a8 a9 b0 b1 b2 b3 b4 b5 b6 b7 b8 b9 hfz
            generalize W.drew = W1 at *
            go_wp2_with fail
            go_roundg j'
            case measure => have := GJ.out; omega
            case rel => exact ⟨j', by go_num, rfl, by omega, BIG, SWW.out⟩
          · have hdec : decide (cmpI r.seq x.seq < 0) = false := by rw [decide_eq_false_iff_not, cmp_neg]; exact hc
            have FIN := Lib.hid (show SortW w w4 g n cap (sortR (l.take (i + 1)) ++ l.drop (i + 1)) from by rw [← ME.out (j' + 1) hji hbig.out (ins_stop hsrt.out j' x HX.out (by omega)), HR.out]; exact H3.out)
            clear hc
            rw [hdec]
            go_wp2_with fail
            go_roundg (n - (i + 1))
            case measure => have := GK.out; omega
            case rel => exact ⟨i + 1, by go_num, by omega, by omega, rfl, FIN.out⟩
    · have FIN := Lib.hid (show SortW w wr g n cap (sortR l) from by
        have h := HS.out
        rw [List.take_of_length_le (by rw [HL.out]; omega), List.drop_of_length_le (by rw [HL.out]; omega), List.append_nil] at h
        exact h)
      go_wp2_with fail
      go_end0
      exact ⟨rfl, FIN.out⟩
end Go.Proofs.Ytkafffoaaklhiaa
