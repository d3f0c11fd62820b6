/-
  SlotsEnd: Tail is at most the Seq of every live region; without the oldest region it is not lower; and a chosen slot overlaps no live region. No condition.
-/
import Derived.Test.YtkafffoaaklhiaaSlRead
namespace Go.Proofs.Ytkafffoaaklhiaa
open Go.RowKit Go.Maps Go.ChangeShapes Go.WideShapes Go.ChangeAt
set_option linter.unusedVariables false
/-- what the walk keeps: the target's box, the live regions -/
structure EndW (w wr : World) (t : Lay) (a : Option Addr) (l : List Reg) : Prop where
  box : wr.heap[w.heap.size]? = some (.cells #[.int .i64 t.id, .int .i64 t.ver, .int .i64 t.rs, .int .i64 t.rg] 23 (0, 0))
  vals : Vals wr a (regC l)
  bel : Below w.heap.size w wr
theorem EndW.below {w wr w' : World} {t : Lay} {a : Option Addr} {l : List Reg} (h : EndW w wr t a l) (hb : Below wr.heap.size wr w') : EndW w w' t a l :=
  ⟨(hb.block _ (blk_lt h.box)).trans h.box, h.vals.below hb (Nat.le_refl _), bel_trans h.bel hb⟩
theorem EndW.reg {w wr : World} {t : Lay} {a : Option Addr} {l : List Reg} (h : EndW w wr t a l) (k : Nat) (r : Reg) (hr : l[k]? = some r) : ∃ b off, a = some ⟨b, off, none⟩ ∧ b < wr.heap.size ∧ RegCells wr b (off + k * 10) r := by
  have hk := (List.getElem?_eq_some_iff.1 hr).1
  obtain ⟨b, off, ha, hb, hc⟩ := h.vals.regs.at k hk
  refine ⟨b, off, ha, hb, ?_⟩
  simp only [hr, Option.getD_some] at hc
  exact hc
set_option maxRecDepth 100000 in
set_option maxHeartbeats 8000000 in
theorem endlaw (t : Lay) (a : Option Addr) (len cap : Nat) (L : List Reg) (next : Int) (w : World) (hlc : len ≤ cap) (hcm : cap ≤ 9223372036854775807) (h0 : a = none → len = 0 ∧ cap = 0) (hl : L.length = len) (hv : Vals w a (regC L)) :
    Calls Try.prog 6 #[.agg #[.int .i64 t.id, .int .i64 t.ver, .int .i64 t.rs, .int .i64 t.rg], .slice a len cap, .int .i64 next] w fun e w' => e = .returned (.bool true) ∧ Below w.heap.size w w' := by
  have hx : (w.alloc (.cells #[.int .i64 t.id, .int .i64 t.ver, .int .i64 t.rs, .int .i64 t.rg] 23)).heap[w.heap.size]? = some (.cells #[.int .i64 t.id, .int .i64 t.ver, .int .i64 t.rs, .int .i64 t.rg] 23 (0, 0)) := by
    show (w.heap.push _)[w.heap.size]? = _
    simp
  obtain ⟨n, hn⟩ : ∃ n : Nat, (if 10 < (len : Int) then (10 : Int) else (len : Int)) = (n : Int) := ⟨(if 10 < (len : Int) then (10 : Int) else (len : Int)).toNat, by split <;> omega⟩
  have hn10 : n ≤ 10 := by split at hn <;> omega
  have hnl : n ≤ len := by split at hn <;> omega
  have hnc : n ≤ cap := by omega
  have W0 := Lib.hid (show EndW w (w.alloc (.cells #[.int .i64 t.id, .int .i64 t.ver, .int .i64 t.rs, .int .i64 t.rg] 23)) t a (L.take n) from
    ⟨hx, (vals_take hv n).below ((Below.refl _ _).alloc (Nat.le_refl _) _) (Nat.le_refl _), (Below.refl _ _).alloc (Nat.le_refl _) _⟩)
  have hll : (L.take n).length = n := by rw [List.length_take]; omega
  have H0 := Lib.hid (show a = none → n = 0 ∧ cap = 0 from fun h => ⟨by have := (h0 h).1; omega, (h0 h).2⟩)
  obtain ⟨l, hle⟩ : ∃ l, L.take n = l := ⟨_, rfl⟩
  rw [hle] at W0 hll
  have LL := Lib.hid hll
  have TL := Lib.hid (fun W (h : Vals W a (regC l)) => tail16 a n cap l next W hll (by omega) h H0.out)
  have CHL := Lib.hid (fun W (h : Vals W a (regC l)) => choose8 t a n cap l W hll (by omega) h)
  have ORL := Lib.hid (fun W (h : Vals W a (regC l)) => order18 a n cap l W hll (by omega) h H0.out)
  have TLE := Lib.hid (tailD_le (l := l) next)
  obtain ⟨td, htd⟩ : ∃ d, tailD l next = d := ⟨_, rfl⟩
  rw [htd] at TL TLE
  have TD := Lib.hid htd
  clear hx hv h0 hl hle hll htd
  go_enter Try.func6, Try.ntmps6
  go_wp2_with fail
  clear hn
  with_reducible refine (TL.out _ W0.out.vals).mono ?_
  rintro e w1 ⟨rfl, hb1⟩
  have W1 := Lib.hid (W0.out.below hb1)
  clear hb1 W0
  go_wp2_with fail
  go_loopg [9, 25] n (fun gk _ iv wr => ∃ i : Nat, iv = .int .i64 i ∧ i ≤ n ∧ gk = n - i ∧ EndW w wr t a l)
  case atStart => exact ⟨0, rfl, Nat.zero_le _, rfl, W1.out⟩
  case round =>
    obtain ⟨i, rfl, hi, hgk, hw⟩ := hrel
    have GK := Lib.hid hgk
    have HW := Lib.hid hw
    clear hgk hw W1
    by_cases hlt : i < n
    · obtain ⟨r, hr⟩ : ∃ r, l[i]? = some r := ⟨_, List.getElem?_eq_getElem (by rw [LL.out]; exact hlt)⟩
      obtain ⟨b, off, rfl, hb, g0, g1, g2, g3, g4, g5, g6, g7, g8, g9⟩ := HW.out.reg i r hr
      have hiI : (i : Int) < n := by omega
      have hle := TLE.out r (List.mem_of_getElem? hr)
      have hdec : decide (r.seq < td) = false := decide_eq_false (by omega)
      clear hr
      go_wp2_with fail
      have W3 := Lib.hid (HW.out.below ((Below.refl _ _).alloc (Nat.le_refl _) (.cells #[.int .i64 r.ver, .int .i64 r.slot, .int .i64 r.lay, .int .i64 r.seq, .int .i64 r.tail, .int .i64 r.now, .int .i64 r.l.id, .int .i64 r.l.ver, .int .i64 r.l.rs, .int .i64 r.l.rg] 36)))
      go_roundg (n - (i + 1))
      case measure => have := GK.out; omega
      case rel => exact ⟨i + 1, by go_num, by omega, rfl, W3.out⟩
    · have hin : i = n := by omega
      subst hin
      have x0 := blk_cell (i := 0) HW.out.box; have x1 := blk_cell (i := 1) HW.out.box; have x2 := blk_cell (i := 2) HW.out.box; have x3 := blk_cell (i := 3) HW.out.box
      simp only [List.getElem?_toArray, List.getElem?_cons_zero, List.getElem?_cons_succ] at x0 x1 x2 x3
      clear GK hlt
      go_wp2_with fail
      with_reducible refine (CHL.out _ HW.out.vals).mono ?_
      rintro e w2 ⟨rfl, hb2⟩
      have W2 := Lib.hid (HW.out.below hb2)
      have CN := Lib.hid (fun (h : chB t l = true) => chS_no h)
      obtain ⟨cb, hcb⟩ : ∃ cb, chB t l = cb := ⟨_, rfl⟩
      obtain ⟨cs, hcs⟩ : ∃ cs, chS t l = cs := ⟨_, rfl⟩
      rw [hcb, hcs] at CN
      rw [hcb, hcs]
      clear hb2 HW x0 x1 x2 x3 hcb hcs
      go_wp2_with fail
      go_loopg [13, 43] i (fun gk _ iv wr => ∃ k : Nat, iv = .int .i64 k ∧ k ≤ i ∧ gk = i - k ∧ EndW w wr t a l)
      case atStart => exact ⟨0, rfl, Nat.zero_le _, rfl, W2.out⟩
      case round =>
        obtain ⟨k, rfl, hk, hgk, hw⟩ := hrel
        have GK := Lib.hid hgk
        have HW := Lib.hid hw
        clear hgk hw W2
        by_cases hlt : k < i
        · obtain ⟨r, hr⟩ : ∃ r, l[k]? = some r := ⟨_, List.getElem?_eq_getElem (by rw [LL.out]; exact hlt)⟩
          obtain ⟨b, off, rfl, hb, g0, g1, g2, g3, g4, g5, g6, g7, g8, g9⟩ := HW.out.reg k r hr
          have hkI : (k : Int) < i := by omega
          have x0 := blk_cell (i := 0) HW.out.box; have x1 := blk_cell (i := 1) HW.out.box; have x2 := blk_cell (i := 2) HW.out.box; have x3 := blk_cell (i := 3) HW.out.box
          simp only [List.getElem?_toArray, List.getElem?_cons_zero, List.getElem?_cons_succ] at x0 x1 x2 x3
          have hbx := blk_lt HW.out.box
          have W3 := Lib.hid (HW.out.below ((Below.refl _ _).alloc (Nat.le_refl _) (.cells #[.int .i64 r.ver, .int .i64 r.slot, .int .i64 r.lay, .int .i64 r.seq, .int .i64 r.tail, .int .i64 r.now, .int .i64 r.l.id, .int .i64 r.l.ver, .int .i64 r.l.rs, .int .i64 r.l.rg] 36)))
          have HR := Lib.hid hr
          clear hr
          cases cb with
          | false =>
            go_wp2_with fail
            go_roundg (i - (k + 1))
            case measure => have := GK.out; omega
            case rel => exact ⟨k + 1, by go_num, by omega, rfl, W3.out⟩
          | true =>
            have OV := Lib.hid (fun W => refov11 t.id t.ver t.rs t.rg cs r.l.id r.l.ver r.l.rs r.l.rg r.slot W)
            have hno := CN.out rfl r (List.mem_of_getElem? HR.out)
            rw [show (⟨t.id, t.ver, t.rs, t.rg⟩ : Lay) = t from rfl, show (⟨r.l.id, r.l.ver, r.l.rs, r.l.rg⟩ : Lay) = r.l from rfl, hno] at OV
            clear hno
            go_wp2_with fail
            with_reducible refine (OV.out _).mono ?_
            rintro e w4 ⟨rfl, hb4⟩
            have W4 := Lib.hid (W3.out.below hb4)
            clear hb4 g0 g1 g2 g3 g4 g5 g6 g7 g8 g9 hb x0 x1 x2 x3 hbx
            go_wp2_with fail
            go_roundg (i - (k + 1))
            case measure => have := GK.out; omega
            case rel => exact ⟨k + 1, by go_num, by omega, rfl, W4.out⟩
        · have hki : k = i := by omega
          subst hki
          clear GK hlt
          go_wp2_with fail
          with_reducible refine (ORL.out _ HW.out.vals).mono ?_
          rintro e w5 ⟨v, rfl, hown, hb5⟩
          obtain ⟨a2, cap2, rfl, hv2, hnc2, hcm2, _, h02, _⟩ := ownsRow_vals hown
          have V5 := Lib.hid hv2
          have H02 := Lib.hid h02
          have W5 := Lib.hid (HW.out.below hb5)
          have SRT := Lib.hid (sort_all l).2.2
          clear hv2 h02 hown hb5
          go_wp2_with fail
          with_reducible refine (awake10 _).mono ?_
          rintro e w6 ⟨rfl, hb6⟩
          have W6 := Lib.hid (W5.out.below hb6)
          have V6 := Lib.hid (V5.out.below hb6 (Nat.le_refl _))
          clear hb6
          by_cases h2 : (k : Int) < 2
          · go_wp2_with fail
            go_ret
            exact ⟨rfl, W6.out.bel⟩
          · obtain ⟨b, off, hab, _⟩ := V6.out 0 (by rw [regC_len, SRT.out, LL.out]; omega)
            subst hab
            cases hS : sortR l with
            | nil => exfalso; have := SRT.out; rw [hS, LL.out] at this; simp at this; omega
            | cons r0 S =>
              have hSl : S.length = k - 1 := by have := SRT.out; rw [hS, LL.out] at this; simp at this; omega
              have V7 := Lib.hid (show Vals w6 (some ⟨b, off + 10, none⟩) (regC S) from by
                have := (hS ▸ V6.out : Vals w6 (some ⟨b, off, none⟩) (regC (r0 :: S))).dropR 1 (by simp)
                exact this)
              have TT := Lib.hid (tail16 (some ⟨b, off + 10, none⟩) (k - 1) (cap2 - 1) S next w6 hSl (by omega) V7.out (fun h => by cases h))
              have TLT := Lib.hid (tailD_tail next hS (fun e => by rw [e] at hSl; simp at hSl; omega))
              rw [TD.out] at TLT
              have hkc : (1 : Int) ≤ k := by omega
              have hkc2 : (k : Int) ≤ cap2 := by omega
              have hc2 : (cap2 : Int) ≤ 9223372036854775807 := by unfold maxLen at hcm2; omega
              obtain ⟨td2, htd2⟩ : ∃ d, tailD S next = d := ⟨_, rfl⟩
              rw [htd2] at TT TLT
              have hge : decide (td2 ≥ td) = true := decide_eq_true (by have := TLT.out; omega)
              clear htd2 hS hSl
              go_wp2_with fail
              with_reducible refine TT.out.mono ?_
              rintro e w7 ⟨rfl, hb7⟩
              have B7 := Lib.hid (bel_trans W6.out.bel hb7)
              clear hb7
              go_wp2_with fail
              go_ret
              exact ⟨rfl, B7.out⟩
theorem walkSlotsEnd (v0 v1 v2 : Value) (w : World) (base : Nat)
    (o0 : Value.okWide Try.prog w .any base 23 v0) (r0 : Reads Try.prog w 23 v0.cells.toList)
    (o1 : Value.okWide Try.prog w .any base 24 v1) (r1 : Reads Try.prog w 24 v1.cells.toList)
    (o2 : Value.okWide Try.prog w .any base 3 v2) (r2 : Reads Try.prog w 3 v2.cells.toList) :
    Calls Try.prog 6 #[v0, v1, v2] w fun e w' => e = .returned (.bool true) ∧ Below w.heap.size w w' := by
  obtain ⟨t, rfl, ht⟩ := arg_lay o0 r0
  obtain ⟨a, len, cap, L, rfl, h1, h2, h3, h4, h5⟩ := arg_regl o1 r1
  obtain ⟨n, rfl, hn⟩ := arg_int Try.underlying3 o2 r2
  exact endlaw t a len cap L n w h1 h2 h3 h4 h5
set_option maxRecDepth 100000 in
theorem liftedSlotsEnd (os : Os) (started : os.Started) (H : Type) (enc : TypeId × Value → H) :
    ReturnsInHanded {} Try.checked os 6 .any (Rows.slotsEndSpec.pre6 enc Try.prog Try.f6 Rows.slotsEndRow.domain false) (Rows.slotsEndSpec.post enc Try.prog Try.f6 false true false false) := by
  refine returnsInHanded_of_change (C := Try.checked) own started (by kernel_rfl) Try.func6
    (ChangeSpec.witness6 (enc := enc) (C := Try.checked) false ⟨#[], #[.agg #[.int .i64 0, .int .i64 0, .int .i64 0, .int .i64 0], .slice none 0 0, .int .i64 0], []⟩ 8 (by kernel_rfl) (by kernel_rfl) (by kernel_rfl) (by kernel_rfl)) ?_
  intro W base args ds gs before hval0 hW hcnd _
  have hval : ∀ (j : Nat) t v, Try.f6.params[j]? = some t → args[j]? = some v → Value.okWide Try.prog W .any base t v := hval0
  have hW' := hW
  obtain ⟨p, q, hA0, hV, rfl, hfz, hnd⟩ := hW
  have hA : DataW.TrodAll enc Try.prog W 0 (fun _ => true) true Try.f6.params.toList args.toList ds p := hA0
  rw [Try.params6] at hA hval
  obtain ⟨v0, vs0, d0, ds0, p0, q0, hargs, rfl, rfl, h0, r0⟩ := trodAll_cons hA
  obtain ⟨v1, vs1, d1, ds1, p1, q1, rfl, rfl, rfl, h1, r1⟩ := trodAll_cons r0
  obtain ⟨v2, vs2, d2, ds2, p2, q2, rfl, rfl, rfl, h2, r2⟩ := trodAll_cons r1
  obtain ⟨rfl, rfl, rfl⟩ := trodAll_nil r2
  obtain rfl : args = #[v0, v1, v2] := by cases args; simp_all
  obtain ⟨rfl, rfl⟩ := trodVars_none hV
  have lt0 : ∀ x ∈ p0, x.block < W.heap.size := by obtain ⟨m, hm⟩ := h0; exact DataW.trod_lt m _ _ _ hm
  have lt1 : ∀ x ∈ p1, x.block < W.heap.size := by obtain ⟨m, hm⟩ := h1; exact DataW.trod_lt m _ _ _ hm
  have lt2 : ∀ x ∈ p2, x.block < W.heap.size := by obtain ⟨m, hm⟩ := h2; exact DataW.trod_lt m _ _ _ hm
  clear hA0 hval0
  refine (walkSlotsEnd v0 v1 v2 W base (hval 0 23 v0 rfl rfl) (Reads.of h0) (hval 1 24 v1 rfl rfl) (Reads.of h1) (hval 2 3 v2 rfl rfl) (Reads.of h2)).mono fun e W' ⟨he, bel⟩ => ?_
  subst he
  exact ⟨_, rfl, _, _, _, [], _, [], hW', trodAll_mk1 (shut_bool Try.underlying4 _), (trodAll_cons_mk (Below.trod laidOut (by kernel_rfl) (of_decide_eq_true (by kernel_rfl)) h0 bel lt0) (trodAll_cons_mk (Below.trod laidOut (by kernel_rfl) (of_decide_eq_true (by kernel_rfl)) h1 bel lt1) (trodAll_cons_mk (Below.trod laidOut (by kernel_rfl) (of_decide_eq_true (by kernel_rfl)) h2 bel lt2) trodAll_mk0))), rfl, bel.frame _, fun h => by cases h⟩

theorem overSlotsEnd : Rows.slotsEndRow.holds Try.pinned (OpenSpec.ofChange Rows.slotsEndSpec) :=
  OpenClaim.holds_of_wide 6 Try.f6 rfl rfl rfl rfl rfl rfl rfl ⟨rfl, rfl, rfl, rfl, rfl⟩ rfl rfl rfl rfl rfl (by kernel_rfl) Try.func6 (by kernel_rfl)
    (of_decide_eq_true (by kernel_rfl)) (by unfold Func.isWrapper; first | (rw [if_pos (by decide +kernel)]; kernel_rfl) | (rw [if_neg (by decide +kernel)]; exact ⟨rfl, rfl⟩))
    (fun os started H enc _ => liftedSlotsEnd os started H enc)

/-- The statement. -/
theorem slotsEnd_holds : Rows.SlotsEndSaid := overSlotsEnd
#print axioms slotsEnd_holds
end Go.Proofs.Ytkafffoaaklhiaa
