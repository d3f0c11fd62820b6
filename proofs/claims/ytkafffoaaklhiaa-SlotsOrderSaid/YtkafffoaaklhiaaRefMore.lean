/-
  The contracts of the reference's Tail and Foreign, and of Eq at equal lists.
-/
import Derived.Test.YtkafffoaaklhiaaRefSel
import Derived.Test.YtkafffoaaklhiaaSlRead
namespace Go.Proofs.Ytkafffoaaklhiaa
open Go.RowKit
set_option linter.unusedVariables false
set_option maxHeartbeats 2000000 in
theorem reftail21 (a : Option Addr) (n cap : Nat) (l : List Reg) (next : Int) (w : World) (hl : l.length = n) (hn : n < 20) (hv : Vals w a (regC l)) :
    Calls Try.prog 21 #[.slice a n cap, .int .i64 next] w fun e w' => e = .returned (.int .i64 (tailD l next)) ∧ Below w.heap.size w w' := by
  have OR := Lib.hid (reforder20 a n cap l w hl hn hv)
  have hsl := (sort_all l).2.2
  obtain ⟨td, htd⟩ : ∃ d, tailD l next = d := ⟨_, rfl⟩
  have htd' := htd
  rw [htd]
  unfold tailD at htd'
  obtain ⟨S, hS⟩ : ∃ S, sortR l = S := ⟨_, rfl⟩
  rw [hS] at htd' hsl
  have SH := Lib.hid hS
  clear hv htd hS
  go_enter Try.func21, Try.ntmps21
  go_wp2_with fail
  with_reducible refine OR.out.mono ?_
  rintro e w1 ⟨v, rfl, hown, hb⟩
  rw [SH.out] at hown
  have B1 := Lib.hid hb
  obtain ⟨g, cap', rfl, hvs, hcap, _⟩ := ownsRow_vals hown
  have VS := Lib.hid hvs
  clear hown OR hb hvs
  go_wp2_with fail
  go_loopg [5, 6, 10] 0 (fun gk _ _ iv wr => iv = .int .i64 0 ∧ w1 = wr)
  case atStart => exact ⟨rfl, rfl⟩
  case round =>
    obtain ⟨rfl, rfl⟩ := hrel
    cases S with
    | nil =>
      have hn0 : n = 0 := by rw [← hl, ← hsl]; rfl
      subst hn0
      simp only at htd'
      subst htd'
      go_wp2_with fail
      go_ret
      exact ⟨rfl, B1.out⟩
    | cons r S =>
      have hn0 : 0 < n := by rw [← hl, ← hsl]; simp
      simp only at htd'
      subst htd'
      obtain ⟨b, off, rfl, hb2, hcells⟩ := VS.out.regs.at 0 (by simp)
      simp only [List.getElem?_cons_zero, Option.getD_some, Nat.zero_mul, Nat.add_zero] at hcells
      obtain ⟨g0, g1, g2, g3, g4, g5, g6, g7, g8, g9⟩ := hcells
      have hbI : (0 : Int) < n := by omega
      have B2 := Lib.hid (bel_trans B1.out ((Below.refl w1.heap.size w1).alloc (Nat.le_refl _) (.cells #[.int .i64 r.ver, .int .i64 r.slot, .int .i64 r.lay, .int .i64 r.seq, .int .i64 r.tail, .int .i64 r.now, .int .i64 r.l.id, .int .i64 r.l.ver, .int .i64 r.l.rs, .int .i64 r.l.rg] 36)))
      go_wp2_with fail
      go_ret
      exact ⟨rfl, B2.out⟩
def forD (t : Lay) (S : List Reg) : List Reg := S.filter (fun r => r.l.id != t.id)
theorem forD_step (t : Lay) (S : List Reg) (k : Nat) (r : Reg) (hr : S[k]? = some r) : forD t (S.take (k + 1)) = if (r.l.id != t.id) = true then forD t (S.take k) ++ [r] else forD t (S.take k) := by
  unfold forD
  rw [List.take_add_one, hr, List.filter_append]
  simp only [Option.toList, List.filter_cons, List.filter_nil]
  split <;> simp_all
theorem forD_len (t : Lay) (S : List Reg) : (forD t S).length ≤ S.length := List.length_filter_le _ _
set_option maxRecDepth 100000 in
set_option maxHeartbeats 4000000 in
theorem eq19 (a b : Option Addr) (n c1 c2 : Nat) (l : List Reg) (w : World) (hl : l.length = n) (hn : n ≤ 1000) (hv : Vals w a (regC l)) (hv2 : Vals w b (regC l)) :
    Calls Try.prog 19 #[.slice a n c1, .slice b n c2] w fun e w' => e = .returned (.bool true) ∧ Below w.heap.size w w' := by
  have HL := Lib.hid hl
  have HV := Lib.hid hv
  have HV2 := Lib.hid hv2
  clear hv hl hv2
  go_enter Try.func19, Try.ntmps19
  go_wp2_with fail
  go_loopg [5, 13] n (fun gk _ iv wr => ∃ i : Nat, iv = .int .i64 i ∧ i ≤ n ∧ gk = n - i ∧ Below w.heap.size w wr)
  case atStart => exact ⟨0, rfl, Nat.zero_le _, rfl, Below.refl _ _⟩
  case round =>
    obtain ⟨i, rfl, hi, hgk, hb⟩ := hrel
    have GK := Lib.hid hgk
    have B := Lib.hid hb
    clear hgk hb
    by_cases hlt : i < n
    · obtain ⟨r, hr⟩ : ∃ r, l[i]? = some r := ⟨_, List.getElem?_eq_getElem (by rw [HL.out]; exact hlt)⟩
      obtain ⟨b1, off1, rfl, hb1, hc1⟩ := (HV.out.below B.out (Nat.le_refl _)).regs.at i (by rw [HL.out]; exact hlt)
      obtain ⟨b2, off2, rfl, hb2, hc2⟩ := (HV2.out.below B.out (Nat.le_refl _)).regs.at i (by rw [HL.out]; exact hlt)
      simp only [hr, Option.getD_some] at hc1 hc2
      obtain ⟨g0, g1, g2, g3, g4, g5, g6, g7, g8, g9⟩ := hc1
      obtain ⟨h0, h1, h2, h3, h4, h5, h6, h7, h8, h9⟩ := hc2
      have hiI : (i : Int) < n := by omega
      clear hr
      go_wp2_with fail
      go_quiet (fail)
      go_wp2_with fail
      have B3 := Lib.hid (B.out.trans ((below_drewN (Below.refl wr.heap.size wr) nq).mono B.out.size))
      go_roundg (n - (i + 1))
      case measure => have := GK.out; omega
      case rel => exact ⟨i + 1, by go_num, by omega, rfl, B3.out⟩
    · have hin : i = n := by omega
      subst hin
      clear GK hlt
      go_wp2_with fail
      go_ret
      exact ⟨rfl, B.out⟩
structure ForW (w wr : World) (t : Lay) (a : Option Addr) (S : List Reg) (v : Value) (m : Nat) (O : List Reg) : Prop where
  box : wr.heap[w.heap.size]? = some (.cells #[.int .i64 t.id, .int .i64 t.ver, .int .i64 t.rs, .int .i64 t.rg] 23 (0, 0))
  vals : Vals wr a (regC S)
  out : wr.ownsRow (w.heap.size + 1) 36 10 v m (regC O)
  ne : ∀ b off, a = some ⟨b, off, none⟩ → v.ownBlock ≠ some b
  bel : Below w.heap.size w wr
theorem ForW.below {w wr w' : World} {t : Lay} {a : Option Addr} {S O : List Reg} {v : Value} {m : Nat} (h : ForW w wr t a S v m O) (hb : Below wr.heap.size wr w') : ForW w w' t a S v m O :=
  ⟨(hb.block _ (blk_lt h.box)).trans h.box, h.vals.below hb (Nat.le_refl _), own_below h.out hb, h.ne, bel_trans h.bel hb⟩
theorem ForW.app {w wr w' : World} {t : Lay} {a : Option Addr} {S O : List Reg} {v : Value} {m g' cap' : Nat} {r : Reg} {o : Obj} (h : ForW w wr t a S v m O) (hS : 0 < S.length)
    (hown : w'.ownsRow (w.heap.size + 1) 36 10 (.slice (some ⟨g', 0, none⟩) (m + 1) cap') (m + 1) (regC (O ++ [r]))) (hg : (wr.alloc o).grownBy w' v.ownBlock) (hat : v.ownBlock = some g' ∨ g' = wr.heap.size + 1) :
    ForW w w' t a S (.slice (some ⟨g', 0, none⟩) (m + 1) cap') (m + 1) (O ++ [r]) := by
  have hb : Below wr.heap.size wr (wr.alloc o) := (Below.refl _ _).alloc (Nat.le_refl _) _
  have h4 := h.below hb
  have hf : Fr (fun j => v.ownBlock = some j) (wr.alloc o) w' := .of_grown hg (fun k e => e)
  refine ⟨(hf.block _ (blk_lt h4.box) (fun e => by have := (h.out.lt _ e).1; omega)).trans h4.box, h4.vals.fr hf (fun b off ha e => h.ne b off ha e), hown, fun b off ha e => ?_, Fr.below h4.bel hf h4.bel.size (fun j hj => by have := (h.out.lt _ hj).1; omega)⟩
  rcases hat with e2 | e2
  · exact h.ne b off ha (e2.trans e)
  · obtain ⟨b', off', ha', hb', _⟩ := h.vals 0 (by rw [regC_len]; omega)
    rw [ha] at ha'
    cases ha'
    simp [Value.ownBlock] at e
    omega
theorem alloc2_new (w : World) (o o' : Obj) : ((w.alloc o).alloc o').heap[w.heap.size + 1]? = some o' := by
  have := heap_alloc_new (w.alloc o) o'
  simpa using this
theorem alloc2_base {w wr : World} (h : w.heap.size < wr.heap.size) (o o' : Obj) : w.heap.size + 1 ≤ ((wr.alloc o).alloc o').heap.size := by simp; omega
theorem alloc2_at {w : World} {o : Obj} {v : Value} {g : Nat} (h : v.ownBlock = some g ∨ g = w.heap.size + 1 + 1) : v.ownBlock = some g ∨ g = (w.alloc o).heap.size + 1 := by simpa using h
set_option maxRecDepth 100000 in
set_option maxHeartbeats 8000000 in
theorem refforeign23 (t : Lay) (a : Option Addr) (n cap : Nat) (l : List Reg) (w : World) (hl : l.length = n) (hn : n < 20) (hv : Vals w a (regC l)) :
    Calls Try.prog 23 #[.agg #[.int .i64 t.id, .int .i64 t.ver, .int .i64 t.rs, .int .i64 t.rg], .slice a n cap] w fun e w' => ∃ v, e = .returned v ∧ w'.ownsRow w.heap.size 36 10 v (forD t (sortR l)).length (regC (forD t (sortR l))) ∧ Below w.heap.size w w' := by
  obtain ⟨i0, hi, hz0, hz1, hz2⟩ := info_parts reginfo
  have I1 := Lib.hid hi; have I2 := Lib.hid hz0; have I3 := Lib.hid hz1; have I4 := Lib.hid hz2
  clear hi hz0 hz1 hz2
  have OR := Lib.hid (reforder20 a n cap l (w.alloc (.cells #[.int .i64 t.id, .int .i64 t.ver, .int .i64 t.rs, .int .i64 t.rg] 23)) hl hn (hv.below ((Below.refl _ _).alloc (Nat.le_refl _) _) (Nat.le_refl _)))
  have hsl := (sort_all l).2.2
  obtain ⟨S, hS⟩ : ∃ S, sortR l = S := ⟨_, rfl⟩
  rw [hS, hl] at hsl
  rw [hS] at OR ⊢
  have SL := Lib.hid hsl
  clear hv hl hS hsl
  go_enter Try.func23, Try.ntmps23
  go_wp2_with fail
  with_reducible refine OR.out.mono ?_
  rintro e w1 ⟨v, rfl, hown, hb⟩
  obtain ⟨a1, cap1, rfl, hvs, hnc, hcm, _⟩ := ownsRow_vals hown
  have hx : w1.heap[w.heap.size]? = some (.cells #[.int .i64 t.id, .int .i64 t.ver, .int .i64 t.rs, .int .i64 t.rg] 23 (0, 0)) := by
    rw [hb.block w.heap.size (by simp)]
    show (w.heap.push _)[w.heap.size]? = _
    simp
  have W1 := Lib.hid (show ForW w w1 t a1 S (.slice none 0 0) 0 (forD t (S.take 0)) from ⟨hx, hvs, World.ownsRow_nil _ _ _ _, fun b off _ => by simp [Value.ownBlock], bel1 hb⟩)
  clear hown hb hx OR hvs
  go_wp2_with fail
  go_loopg [5, 7, 11] n (fun gk v0 _ iv wr => ∃ (v : Value) (i m : Nat), v = v0 ∧ iv = .int .i64 i ∧ i ≤ n ∧ gk = n - i ∧ m = (forD t (S.take i)).length ∧ ForW w wr t a1 S v m (forD t (S.take i)))
  case atStart => exact ⟨_, 0, 0, rfl, rfl, Nat.zero_le _, rfl, rfl, W1.out⟩
  case round =>
    obtain ⟨v, i, m, rfl, rfl, hi, hgk, hm, hw⟩ := hrel
    have GK := Lib.hid hgk
    have HW := Lib.hid hw
    have hmn : m ≤ 20 := by
      have := forD_len t (S.take i)
      rw [List.length_take] at this
      omega
    have HM := Lib.hid hm
    clear hgk hw W1 hm
    by_cases hlt : i < n
    · obtain ⟨r, hr⟩ : ∃ r, S[i]? = some r := ⟨_, List.getElem?_eq_getElem (by rw [SL.out]; exact hlt)⟩
      obtain ⟨b, off, rfl, hb, hcells⟩ := HW.out.vals.regs.at i (by rw [SL.out]; exact hlt)
      simp only [hr, Option.getD_some] at hcells
      obtain ⟨g0, g1, g2, g3, g4, g5, g6, g7, g8, g9⟩ := hcells
      have hiI : (i : Int) < n := by omega
      have ST := Lib.hid (forD_step t S i r hr)
      have x0 := blk_cell (i := 0) HW.out.box
      simp only [List.getElem?_toArray, List.getElem?_cons_zero] at x0
      have hbx := blk_lt HW.out.box
      have hSl : 0 < S.length := by rw [SL.out]; omega
      have W3 := Lib.hid (HW.out.below ((Below.refl _ _).alloc (Nat.le_refl _) (.cells #[.int .i64 r.ver, .int .i64 r.slot, .int .i64 r.lay, .int .i64 r.seq, .int .i64 r.tail, .int .i64 r.now, .int .i64 r.l.id, .int .i64 r.l.ver, .int .i64 r.l.rs, .int .i64 r.l.rg] 36)))
      obtain ⟨O, hO⟩ : ∃ O, forD t (S.take i) = O := ⟨_, rfl⟩
      rw [hO] at W3 ST HM
      clear hr hO HW
      cases hne : (r.l.id != t.id) with
      | false =>
        rw [hne] at ST
        simp only [Bool.false_eq_true, if_false] at ST
        go_wp2_with fail
        go_roundg (n - (i + 1))
        case measure => have := GK.out; omega
        case rel => exact ⟨_, i + 1, m, rfl, by go_num, by omega, rfl, by rw [ST.out]; exact HM.out, by rw [ST.out]; exact W3.out⟩
      | true =>
        rw [hne] at ST
        simp only [if_true] at ST
        go_wp2_with (at_builtin; refine Stop.out ?_)
        refine Stop.of ?_
        (with_reducible apply wpList_append_lies (hgd := rfl) (t := 24) (base := w.heap.size + 1) (e := 36) (i := i0) (z := (.agg #[.int .i64 0, .int .i64 0, .int .i64 0, .int .i64 0, .int .i64 0, .int .i64 0, .int .i64 0, .int .i64 0, .int .i64 0, .int .i64 0])) (size := 10) (bytes := 80) (n := m) (xs := regC O) (m := 1) (news := regC [r]) (ht := Try.underlying24) (hi := I1.out) (hz := I2.out) (hsize := I3.out) (hby := I4.out) (hzs := rfl) (ad := ⟨wr.heap.size + 1, 0, none⟩) (c := 1) (H := wr.heap.size + 1 + 1))
        case ho => exact rfl
        case hs => exact rfl
        case hx => exact rfl
        case hsz => decide
        case hown => exact W3.out.out.alloc _
        case hl => exact rfl
        case hnews => exact World.news_of_block (t := 36) (fr := (0, 0)) (cs := #[.int .i64 r.ver, .int .i64 r.slot, .int .i64 r.lay, .int .i64 r.seq, .int .i64 r.tail, .int .i64 r.now, .int .i64 r.l.id, .int .i64 r.l.ver, .int .i64 r.l.rs, .int .i64 r.l.rg]) (alloc2_new wr _ _)
        case h1 => exact regC_one _
        case hm => decide
        case h63 => exact Nat.le_trans (show m + 1 ≤ 40 by omega) (by decide)
        case hbytes => omega
        case hbase => exact alloc2_base hbx _ _
        case hH => simp
        case h =>
          intro g' cap' w5 hown5 hgrow5 hat5 hlt5
          rw [← regC_app] at hown5
          have W5 := Lib.hid (W3.out.app hSl hown5 hgrow5 (alloc2_at hat5))
          clear hown5 hgrow5 hat5 hlt5 g0 g1 g2 g3 g4 g5 g6 g7 g8 g9 hb x0 hbx W3
          go_wp2_with fail
          go_roundg (n - (i + 1))
          case measure => have := GK.out; omega
          case rel => exact ⟨_, i + 1, m + 1, rfl, by go_num, by omega, rfl, by rw [ST.out, List.length_append, ← HM.out]; rfl, by rw [ST.out]; exact W5.out⟩
    · have hin : i = n := by omega
      subst hin
      have FIN := Lib.hid (show wr.ownsRow w.heap.size 36 10 v (forD t S).length (regC (forD t S)) from by
        have h1 := HW.out.out
        rw [List.take_of_length_le (by rw [SL.out]; exact Nat.le_refl _)] at h1
        have h2 := HM.out
        rw [List.take_of_length_le (by rw [SL.out]; exact Nat.le_refl _)] at h2
        rw [← h2]
        exact Joins.ownsRow_le h1 (by omega))
      clear GK hlt
      go_wp2_with fail
      go_ret
      exact ⟨v, rfl, FIN.out, HW.out.bel⟩
end Go.Proofs.Ytkafffoaaklhiaa
