/-
  ReplaySuffix: whatever the batches that come in, without the oldest batches Map has exactly the entries that lie in the remaining ones, so the law returns true; the input reads behind the call as it did. No conditions.
-/
import Derived.Test.YtbfkhghegkiifaaRpLaw
namespace Go.Proofs.Ytbfkhghegkiifaa
open Go.RowKit Go.WideShapes Go.ChangeShapes
set_option linter.unusedVariables false
theorem cells_set (l : List Bt) (i : Nat) (x : Bt) (s : Int) (hx : l[i]? = some x) : (l.flatMap Bt.cells).set (i * 2) (.int .i64 s) = (l.set i { x with seq := s }).flatMap Bt.cells := by
  induction l generalizing i with
  | nil => simp at hx
  | cons y l ih =>
    cases i with
    | zero =>
      simp at hx; subst hx
      rfl
    | succ i =>
      have h' : l[i]? = some x := by simpa using hx
      rw [List.set_cons_succ, List.flatMap_cons, List.flatMap_cons, ← ih i h', show (i + 1) * 2 = i * 2 + 1 + 1 from by omega]
      rfl
theorem Du.setA {w W : World} {bs lb : List Bt} {g n c : Nat} {vb : Value} (h : Du w W bs bs lb (.slice (some ⟨g, 0, none⟩) n c) vb) (hn : bs.length = n) (i : Nat) (x : Bt) (hx : bs[i]? = some x) (s : Int) :
    Du w (W.setCell ⟨g, i * 2, none⟩ (.int .i64 s)) (bs.set i { x with seq := s }) (bs.set i { x with seq := s }) lb (.slice (some ⟨g, 0, none⟩) n c) vb := by
  subst hn
  obtain ⟨own, gr⟩ := h.ownA.stored (i * 2) (.int .i64 s)
  refine ⟨h.bel.grown gr h.bel.size (fun j hj => by cases hj; exact (h.ownA.lt g rfl).1), fun b hb => ?_, ?_, own_far h.ownB h.ownA (by decide) gr⟩
  · rcases List.mem_or_eq_of_mem_set hb with hb | hb
    · exact ⟨own_far (h.xs b hb).own h.ownA (by decide) gr, (h.xs b hb).keys, (h.xs b hb).le⟩
    · subst hb
      have hm := List.mem_of_getElem? hx
      exact ⟨own_far (h.xs x hm).own h.ownA (by decide) gr, (h.xs x hm).keys, (h.xs x hm).le⟩
  · rw [List.length_set, ← cells_set bs i x s hx]
    exact own
theorem Du.inA' {w W : World} {bs lb : List Bt} {va vb : Value} (h : Du w W bs bs lb va vb) : ∃ a c, va = .slice a bs.length c ∧ BtsIn W a bs ∧ bs.length ≤ c ∧ c ≤ maxLen ∧ (a = none → bs.length = 0 ∧ c = 0) := by
  obtain ⟨a, c, e, hv, h1, h2, _, h3, h4⟩ := ownsRow_vals h.ownA
  exact ⟨a, c, e, ⟨hv, fun b hb => (h.xs b hb).bt h.bel⟩, h1, h2, h3⟩
theorem tmod_rng (k : Int) (n : Nat) : -(n : Int) ≤ k.tmod ((n : Int) + 1) ∧ k.tmod ((n : Int) + 1) ≤ (n : Int) := by
  have h0 : ((n : Int) + 1) ≠ 0 := by omega
  rcases Int.le_total 0 k with h | h
  · have h1 := Int.tmod_lt_of_pos k (show (0 : Int) < n + 1 by omega)
    have h2 := Int.tmod_nonneg ((n : Int) + 1) h
    omega
  · have h1 := Int.tmod_lt_of_pos (-k) (show (0 : Int) < n + 1 by omega)
    have h2 := Int.tmod_nonneg ((n : Int) + 1) (show 0 ≤ -k by omega)
    rw [Int.neg_tmod] at h1 h2
    omega
theorem kmod (k : Int) (n : Nat) (hn : n ≤ 5) : ∃ m : Nat, m ≤ n ∧ (wrap64 (wrap64 (k.tmod ((n : Int) + 1) + (n : Int)) + 1)).tmod ((n : Int) + 1) = (m : Int) := by
  obtain ⟨h1, h2⟩ := tmod_rng k n
  have e1 := IntWalk.wrap64_in (k.tmod ((n : Int) + 1) + (n : Int)) ⟨by omega, by omega⟩
  have e2 := IntWalk.wrap64_in (k.tmod ((n : Int) + 1) + (n : Int) + 1) ⟨by omega, by omega⟩
  rw [e1, e2]
  have h3 := tmod_rng (k.tmod ((n : Int) + 1) + n + 1) n
  have h4 := Int.tmod_nonneg ((n : Int) + 1) (show 0 ≤ k.tmod ((n : Int) + 1) + n + 1 by omega)
  exact ⟨((k.tmod ((n : Int) + 1) + n + 1).tmod ((n : Int) + 1)).toNat, by omega, by omega⟩
/-- the batches are numbered: the first m of them have numbers up to m, the others greater ones -/
theorem num_split {bs : List Bt} (h : ∀ (j : Nat) (b : Bt), bs[j]? = some b → b.seq = (j : Int) + 1) (m : Nat) : (∀ r ∈ recs (bs.take m), r.seq ≤ (m : Int)) ∧ ∀ r ∈ recs (bs.drop m), (m : Int) < r.seq := by
  constructor
  · intro r hr
    unfold recs at hr
    obtain ⟨b, hb, hr⟩ := List.mem_flatMap.1 hr
    unfold Bt.rcs at hr
    obtain ⟨f, _, rfl⟩ := List.mem_map.1 hr
    obtain ⟨j, hj, e⟩ := List.mem_iff_getElem.1 hb
    have h1 : bs[j]? = some b := by
      rw [List.length_take] at hj
      rw [← e, List.getElem_take, List.getElem?_eq_getElem]
    have := h j b h1
    rw [List.length_take] at hj
    show b.seq ≤ m
    omega
  · intro r hr
    unfold recs at hr
    obtain ⟨b, hb, hr⟩ := List.mem_flatMap.1 hr
    unfold Bt.rcs at hr
    obtain ⟨f, _, rfl⟩ := List.mem_map.1 hr
    obtain ⟨j, hj, e⟩ := List.mem_iff_getElem.1 hb
    have h1 : bs[m + j]? = some b := by
      rw [List.length_drop] at hj
      rw [← e, List.getElem_drop, List.getElem?_eq_getElem]
    have := h (m + j) b h1
    show m < b.seq
    omega
theorem BtsIn.tail {w : World} {b off : Nat} {bs : List Bt} (h : BtsIn w (some ⟨b, off, none⟩) bs) (m c : Nat) (hm : m ≤ bs.length) (hc : bs.length ≤ c) : BtsIn w (if c = m then some ⟨b, off, none⟩ else some ⟨b, off + m * 2, none⟩) (bs.drop m) := by
  refine ⟨?_, fun x hx => h.bts x (List.mem_of_mem_drop hx)⟩
  split
  · rw [List.drop_eq_nil_of_le (by omega)]
    exact Vals.nil
  · have e : (bs.drop m).flatMap Bt.cells = (bs.flatMap Bt.cells).drop (m * 2) := by
      have h1 : bs.flatMap Bt.cells = (bs.take m).flatMap Bt.cells ++ (bs.drop m).flatMap Bt.cells := by rw [← List.flatMap_append, List.take_append_drop]
      rw [h1, List.drop_append, flat_len Bt.cells 2 Bt.cells_len, List.length_take, Nat.min_eq_left hm, Nat.sub_self, List.drop_zero]
      have e2 : ((bs.take m).flatMap Bt.cells).drop (m * 2) = [] := List.drop_eq_nil_of_le (by rw [flat_len Bt.cells 2 Bt.cells_len, List.length_take]; omega)
      rw [e2]
      rfl
    rw [e]
    exact h.vals.drop (m * 2)
theorem BtsIn.nil' (w : World) (a : Option Addr) : BtsIn w a [] := ⟨Vals.nil, fun b hb => by simp at hb⟩
theorem BtsIn.tail' {w : World} {a : Option Addr} {bs : List Bt} {n : Nat} (h : BtsIn w a bs) (hn : bs.length = n) (m c : Nat) (hm : m ≤ n) (hc : n ≤ c) : BtsIn w (if c = m then a else a.map (·.add (m * 2))) (bs.drop m) := by
  subst hn
  by_cases e : m = bs.length
  · rw [List.drop_eq_nil_of_le (by omega)]
    exact BtsIn.nil' _ _
  · obtain ⟨x, hx⟩ : ∃ x, bs[0]? = some x := ⟨_, List.getElem?_eq_getElem (by omega)⟩
    obtain ⟨b, off, rfl, -⟩ := h.at 0 x hx
    have := h.tail m c hm hc
    rw [if_neg (by omega)] at this ⊢
    rw [Option.map_some, add_plain]
    exact this
theorem slice_low (a : Option Addr) (n c m : Nat) (hm : m ≤ n) (W : World) : (Instr.slice 22 (.slice a n c) (some (.int .i64 (m : Int))) none none).run Try.prog W = .ok (.slice (if c = m then a else a.map (·.add (m * 2))) (n - m) (c - m)) W := by
  have hs : (sizeOf (Try.prog.elem 22)).run Try.prog W = .ok 2 W := by kernel_rfl
  rw [run_slice_l (P := Try.prog) W 22 a n c (by kernel_rfl) .i64 (m : Int) (by omega) (by omega), hs]
  rfl
/-- how far the numbers have been written -/
def Num (bs : List Bt) (n i : Nat) : Prop := bs.length = n ∧ ∀ (j : Nat) (b : Bt), j < i → bs[j]? = some b → b.seq = (j : Int) + 1
theorem num_set {bs : List Bt} {n i : Nat} {x : Bt} (h : Num bs n i) (hx : bs[i]? = some x) : Num (bs.set i { x with seq := (i : Int) + 1 }) n (i + 1) := by
  refine ⟨by rw [List.length_set]; exact h.1, fun j b hj hb => ?_⟩
  by_cases e : j = i
  · subst e
    rw [List.getElem?_set_self (List.getElem?_eq_some_iff.1 hx).1] at hb
    cases hb; rfl
  · rw [List.getElem?_set_ne (fun h => e h.symm)] at hb
    exact h.2 j b (by omega) hb
set_option maxRecDepth 100000 in
set_option maxHeartbeats 8000000 in
theorem suffixlaw (a : Option Addr) (len cap : Nat) (k now : Int) (w : World) (hlen : len ≤ 9223372036854775807) (hin : RawBts w a len) :
    Calls Try.prog 4 #[.slice a len cap, .int .i64 k, .int .i64 now] w fun e w' => e = .returned (.bool true) ∧ Below w.heap.size w w' := by
  have SH := Lib.hid (short7 a len cap w hlen hin)
  clear hin
  go_enter Try.func4, Try.ntmps4
  go_wp2_with fail
  with_reducible refine SH.out.mono ?_
  rintro e w1 ⟨va, vb, bs, rfl, hl5, du⟩
  obtain ⟨aa, ca, rfl, -⟩ := du.inA
  obtain ⟨n, hn⟩ : ∃ n, bs.length = n := ⟨_, rfl⟩
  rw [hn] at hl5 du ⊢
  have D1 := Lib.hid du
  have HN := Lib.hid (show Num bs n 0 from ⟨hn, fun j b hj => by omega⟩)
  clear SH du hn
  go_wp2_with fail
  go_loopg [9, 20] n (fun gk _ iv wr => ∃ (i : Nat) (bs' : List Bt), i ≤ n ∧ iv = .int .i64 i ∧ gk + i = n ∧ Du w wr bs' bs' bs (.slice aa n ca) vb ∧ Hid (Num bs' n i))
  case atStart => exact ⟨0, bs, by omega, rfl, by omega, D1.out, HN⟩
  case round =>
    obtain ⟨i, bs', hi, rfl, hgk, du, NM⟩ := hrel
    have GK := Lib.hid hgk
    have D2 := Lib.hid du
    clear hgk D1 HN
    by_cases hlt : i < n
    · obtain ⟨x, hx⟩ : ∃ x, bs'[i]? = some x := ⟨_, List.getElem?_eq_getElem (by have := NM.out.1; omega)⟩
      obtain ⟨g, c', hv, _, hgl⟩ := du.ownA.form (by have := NM.out.1; omega)
      injection hv with h1 h2 h3
      subst h1
      have c0 : wr.cell? ⟨g, i * 2, none⟩ = some (.int .i64 x.seq) := by
        have h1 := du.ownA
        rw [h2] at h1
        have hl := flat_len Bt.cells 2 Bt.cells_len bs'
        rw [World.ownsRow.cellAt h1 (i * 2) (by have := NM.out.1; omega)]
        exact flat_at Bt.cells 2 Bt.cells_len bs' i x hx 0 (by omega)
      have f0 : wr.frozen? ⟨g, i * 2, none⟩ = false := by
        have h1 := du.ownA
        rw [h2] at h1
        exact World.ownsRow.frozenAt h1 (i * 2)
      have hii : (i : Int) < n := by omega
      have SET := Lib.hid (du.setA NM.out.1 i x hx ((i : Int) + 1))
      have NM2 := Lib.hid (num_set NM.out hx)
      clear hx du h2 h3
      go_wp2_with fail
      go_roundg (n - (i + 1))
      case measure => have := GK.out; omega
      case rel => exact ⟨i + 1, _, by omega, by go_num, by omega, SET.out, NM2⟩
    · obtain rfl : n = i := by omega
      clear hlt
      go_wp2_with fail
      obtain ⟨m, hm, hkm⟩ := kmod k n hl5
      rw [hkm]
      have hlen' := NM.out.1
      obtain ⟨a0, c0, hv0, ia, hca, hcm, hnil⟩ := du.inA'
      injection hv0 with e1 e2 e3
      subst e1 e3
      rw [hlen'] at hca hnil
      have HNIL := Lib.hid hnil
      have HLN := Lib.hid hlen'
      have A1 := Lib.hid ia
      have B1 := Lib.hid du.bel
      have NS := Lib.hid (num_split (bs := bs') (fun j b hb => NM.out.2 j b (by have := (List.getElem?_eq_some_iff.1 hb).1; omega) hb) m)
      obtain ⟨i0, hz, hz0, hz1, hz2⟩ := info_parts prinfo
      have I1 := Lib.hid hz; have I2 := Lib.hid hz0; have I3 := Lib.hid hz1; have I4 := Lib.hid hz2
      clear hz hz0 hz1 hz2 hkm hnil hlen' ia du D2 NM e2
      with_reducible refine (rmap10 aa n ca bs' now _ HLN.out (by omega) A1.out).mono ?_
      rintro e w2 ⟨v, qs, rfl, hmr, hq, hown, b2⟩
      obtain ⟨a3, c3, rfl, hv⟩ := own_valsQ hown
      have HV := Lib.hid hv
      have HM := Lib.hid hmr
      have A2 := Lib.hid (A1.out.below b2)
      have B2 := Lib.hid (bel_trans B1.out b2)
      clear hv hmr hown b2 A1 B1
      obtain ⟨ql, hql⟩ : ∃ m, qs.length = m := ⟨_, rfl⟩
      rw [hql] at hq ⊢
      have HQ := Lib.hid hql
      clear hql
      go_wp2_with fail
      go_loopg [10, 12, 47] ql (fun gk ov _ kv wr => ∃ (k' : Nat) (v : Value), k' ≤ ql ∧ v = ov ∧ kv = .int .i64 k' ∧ gk + k' = ql ∧ OuR w2 wr v ((qs.take k').filter (fun x => decide ((m : Int) < x.en.seq))))
      case atStart => exact ⟨0, _, by omega, rfl, rfl, by omega, ⟨Below.refl _ _, own_nil _ _ _ _⟩⟩
      case round =>
        obtain ⟨k', v, hk, rfl, rfl, hgk, ou⟩ := hrel
        have GK := Lib.hid hgk
        have OU := Lib.hid ou
        clear hgk ou
        by_cases hlt2 : k' < ql
        · obtain ⟨x, hx⟩ : ∃ x, qs[k']? = some x := ⟨_, List.getElem?_eq_getElem (by have := HQ.out; omega)⟩
          obtain ⟨g, off, hab, hg, q0, q1, q2, q3, q4, q5⟩ := (HV.out.below OU.out.bel (Nat.le_refl _)).pair k' x hx
          subst hab
          have hkk : (k' : Int) < ql := by omega
          have TS := Lib.hid (take_snoc qs k' x hx)
          obtain ⟨r, hr⟩ : ∃ r, ((qs.take k').filter (fun x => decide ((m : Int) < x.en.seq))).length = r := ⟨_, rfl⟩
          have hrk : r ≤ k' := by rw [← hr]; exact filt_len _ _ _
          have HR := Lib.hid hr
          have OU2 := Lib.hid (OU.out.alloc (.cells #[.string x.key, .int .i64 x.en.seq, .int .i64 x.en.off, .int .i64 x.en.len, .int .i64 x.en.exp, .bool x.en.hit] 38))
          have OWH := Lib.hid (show (wr.alloc (.cells #[.string x.key, .int .i64 x.en.seq, .int .i64 x.en.off, .int .i64 x.en.len, .int .i64 x.en.exp, .bool x.en.hit] 38)).ownsRow w2.heap.size 38 6 v r (pairsC ((qs.take k').filter (fun x => decide ((m : Int) < x.en.seq)))) from by
            have := OU2.out.own
            rw [HR.out] at this
            exact this)
          clear hx hr
          by_cases h1 : (m : Int) < x.en.seq
          · have t1 : decide ((m : Int) < x.en.seq) = true := by simp [h1]
            have FL := Lib.hid (filt_yes (P := fun x => decide ((m : Int) < x.en.seq)) TS.out t1)
            clear h1
            go_wp2_with (at_builtin; refine Stop.out ?_)
            refine Stop.of (wpList_app rfl _ _ 28 rfl w2.heap.size 38 i0 (.agg #[.string ByteArray.empty, .int .i64 0, .int .i64 0, .int .i64 0, .int .i64 0, .bool false]) 6 56 Try.underlying28 I1.out I2.out I3.out I4.out rfl (by decide) v r (pairsC ((qs.take k').filter (fun x => decide ((m : Int) < x.en.seq)))) rfl (OWH.out.alloc _) _ 1 [.string x.key, .int .i64 x.en.seq, .int .i64 x.en.off, .int .i64 x.en.len, .int .i64 x.en.exp, .bool x.en.hit] rfl (src_lit #[.string x.key, .int .i64 x.en.seq, .int .i64 x.en.off, .int .i64 x.en.len, .int .i64 x.en.exp, .bool x.en.hit] (0, 0) (heap_two _ _ _) rfl) (one6 x.key x.en) (by unfold maxLen; omega) (by omega) (by have := OU2.out.bel.size; simp at this ⊢; omega) ?_)
            intro v2 w3 hown3 hg3
            have O3 := Lib.hid (OU2.out.app (x := x) (by rw [HR.out]; exact hown3) hg3)
            clear hown3 hg3 q0 q1 q2 q3 q4 q5 hg
            go_wp2_with fail
            go_roundg (ql - (k' + 1))
            case measure => have := GK.out; omega
            case rel => exact ⟨k' + 1, _, by omega, rfl, by go_num, by omega, by rw [FL.out]; exact O3.out⟩
          · have t1 : decide ((m : Int) < x.en.seq) = false := by simp; omega
            have FL := Lib.hid (filt_no (P := fun x => decide ((m : Int) < x.en.seq)) TS.out t1)
            clear h1
            go_wp2_with fail
            go_roundg (ql - (k' + 1))
            case measure => have := GK.out; omega
            case rel => exact ⟨k' + 1, _, by omega, rfl, by go_num, by omega, by rw [FL.out]; exact OU2.out⟩
        · obtain rfl : ql = k' := by omega
          have hl : qs.take ql = qs := List.take_of_length_le (by have := HQ.out; omega)
          have O2 := Lib.hid (show OuR w2 wr v (qs.filter (fun x => decide ((m : Int) < x.en.seq))) from by have := OU.out; rw [hl] at this; exact this)
          clear hl
          have A3 := Lib.hid (A2.out.below O2.out.bel)
          have B3 := Lib.hid (bel_trans B2.out O2.out.bel)
          obtain ⟨a4, c4, rfl, hv4⟩ := own_valsQ O2.out.own
          have V4 := Lib.hid hv4
          have HMS := Lib.hid (show MapR (recs (bs'.take m) ++ recs (bs'.drop m)) now qs from by rw [← recs_append, List.take_append_drop]; exact HM.out)
          have hdl : (bs'.drop m).length = n - m := by rw [List.length_drop, HLN.out]
          have HDL := Lib.hid hdl
          clear hv4 A2 B2 hdl HM
          have fin : ∀ (W : World) (q2 : List Pr) (v5 : Value), MapR (recs (bs'.drop m)) now q2 → q2 = qs.filter (fun x => decide ((m : Int) < x.en.seq)) := fun W q2 v5 h5 => (suffix_law HMS.out h5 NS.out.1 NS.out.2).symm
          have FIN := Lib.hid fin
          clear fin
          go_wp2_with fail
          with_reducible refine (awake8 _).mono ?_
          rintro e w4 ⟨rfl, b4⟩
          have V5 := Lib.hid (V4.out.below b4 (Nat.le_refl _))
          have A4 := Lib.hid (A3.out.below b4)
          have B4 := Lib.hid (bel_trans B3.out b4)
          clear b4 A3 B3 V4
          obtain ⟨a9, c9, hs9, ins9⟩ : ∃ (a9 : Option Addr) (c9 : Nat), (∀ W : World, (Instr.slice 22 (.slice aa n ca) (some (.int .i64 (m : Int))) none none).run Try.prog W = .ok (.slice a9 (n - m) c9) W) ∧ BtsIn w4 a9 (bs'.drop m) := ⟨_, _, slice_low aa n ca m hm, A4.out.tail' HLN.out m ca hm hca⟩
          have INS := Lib.hid ins9
          clear ins9
          go_wp2_with fail
          obtain ⟨n9, hn9⟩ : ∃ n9, n - m = n9 := ⟨_, rfl⟩
          rw [hn9] at HDL ⊢
          have h911 : n9 ≤ 11 := by omega
          clear hn9
          with_reducible refine (rmap10 a9 n9 c9 (bs'.drop m) now _ HDL.out h911 INS.out).mono ?_
          rintro e w5 ⟨v, q2, rfl, hm5, hq5, hown5, b5⟩
          obtain rfl := FIN.out w5 q2 v hm5
          obtain ⟨a5, c5, rfl, hv5⟩ := own_valsQ hown5
          have V6 := Lib.hid hv5
          have V7 := Lib.hid (V5.out.below b5 (Nat.le_refl _))
          have B5 := Lib.hid (bel_trans B4.out b5)
          clear b5 hm5 hown5 hv5 B4 V5 A4 HMS FIN hs9 INS
          obtain ⟨qf, hqf⟩ : ∃ qf, (qs.filter (fun x => decide ((m : Int) < x.en.seq))).length = qf := ⟨_, rfl⟩
          rw [hqf] at hq5 ⊢
          have HL := Lib.hid hqf
          clear hqf
          go_wp2_with fail
          with_reducible refine (eq20 a5 a4 c5 c4 qf _ _ HL.out (by omega) V6.out V7.out).mono ?_
          rintro e w6 ⟨rfl, b6⟩
          have B6 := Lib.hid (bel_trans B5.out b6)
          clear b6
          go_wp2_with fail
          go_ret
          exact ⟨rfl, B6.out⟩
set_option maxRecDepth 100000 in
theorem walkReplaySuffix (v0 v1 v2 : Value) (w : World) (base : Nat)
    (o0 : Value.okWide Try.prog w .any base 22 v0) (r0 : Reads Try.prog w 22 v0.cells.toList)
    (o1 : Value.okWide Try.prog w .any base 3 v1) (r1 : Reads Try.prog w 3 v1.cells.toList)
    (o2 : Value.okWide Try.prog w .any base 3 v2) (r2 : Reads Try.prog w 3 v2.cells.toList) :
    Calls Try.prog 4 #[v0, v1, v2] w fun e w' => e = .returned (.bool true) ∧ Below w.heap.size w w' := by
  obtain ⟨a, len, cap, rfl, h1, h2⟩ := arg_batches o0 r0
  obtain ⟨k, rfl, _⟩ := arg_int Try.underlying3 o1 r1
  obtain ⟨now, rfl, _⟩ := arg_int Try.underlying3 o2 r2
  exact suffixlaw a len cap k now w h1 h2
set_option maxRecDepth 100000 in
theorem liftedReplaySuffix (os : Os) (started : os.Started) (H : Type) (enc : TypeId × Value → H) :
    ReturnsInHanded {} Try.checked os 4 .any (Rows.replaySuffixSpec.pre6 enc Try.prog Try.f4 Rows.replaySuffixRow.domain false) (Rows.replaySuffixSpec.post enc Try.prog Try.f4 false true false false) := by
  refine returnsInHanded_of_change (C := Try.checked) own started (by kernel_rfl) Try.func4
    (ChangeSpec.witness6 (enc := enc) (C := Try.checked) false ⟨#[], #[.slice none 0 0, .int .i64 0, .int .i64 0], []⟩ 8 (by kernel_rfl) (by kernel_rfl) (by kernel_rfl) (by kernel_rfl)) ?_
  intro W base args ds gs before hval0 hW hcnd _
  have hval : ∀ (j : Nat) t v, Try.f4.params[j]? = some t → args[j]? = some v → Value.okWide Try.prog W .any base t v := hval0
  have hW' := hW
  obtain ⟨p, q, hA0, hV, rfl, hfz, hnd⟩ := hW
  have hA : DataW.TrodAll enc Try.prog W 0 (fun _ => true) true Try.f4.params.toList args.toList ds p := hA0
  rw [Try.params4] at hA hval
  obtain ⟨v0, vs0, d0, ds0, p0, q0, hargs, rfl, rfl, h0, r0⟩ := trodAll_cons hA
  obtain ⟨v1, vs1, d1, ds1, p1, q1, rfl, rfl, rfl, h1, r1⟩ := trodAll_cons r0
  obtain ⟨v2, vs2, d2, ds2, p2, q2, rfl, rfl, rfl, h2, r2⟩ := trodAll_cons r1
  obtain ⟨rfl, rfl, rfl⟩ := trodAll_nil r2
  obtain rfl : args = #[v0, v1, v2] := by cases args; simp_all
  obtain ⟨rfl, rfl⟩ := trodVars_none hV
  have lt0 : ∀ x ∈ p0, x.block < W.heap.size := by obtain ⟨m, hm⟩ := h0; exact DataW.trod_lt m _ _ _ hm
  have lt1 : ∀ x ∈ p1, x.block < W.heap.size := by obtain ⟨m, hm⟩ := h1; exact DataW.trod_lt m _ _ _ hm
  have lt2 : ∀ x ∈ p2, x.block < W.heap.size := by obtain ⟨m, hm⟩ := h2; exact DataW.trod_lt m _ _ _ hm
  clear hA0 hval0
  refine (walkReplaySuffix v0 v1 v2 W base (hval 0 22 v0 rfl rfl) (Reads.of h0) (hval 1 3 v1 rfl rfl) (Reads.of h1) (hval 2 3 v2 rfl rfl) (Reads.of h2)).mono fun e W' ⟨he, bel⟩ => ?_
  subst he
  exact ⟨_, rfl, _, _, _, [], _, [], hW', trodAll_mk1 (shut_bool Try.underlying4 _), (trodAll_cons_mk (Below.trod laidOut (by kernel_rfl) (of_decide_eq_true (by kernel_rfl)) h0 bel lt0) (trodAll_cons_mk (Below.trod laidOut (by kernel_rfl) (of_decide_eq_true (by kernel_rfl)) h1 bel lt1) (trodAll_cons_mk (Below.trod laidOut (by kernel_rfl) (of_decide_eq_true (by kernel_rfl)) h2 bel lt2) trodAll_mk0))), rfl, bel.frame _, fun h => by cases h⟩

theorem overReplaySuffix : Rows.replaySuffixRow.holds Try.pinned (OpenSpec.ofChange Rows.replaySuffixSpec) :=
  OpenClaim.holds_of_wide 4 Try.f4 rfl rfl rfl rfl rfl rfl rfl ⟨rfl, rfl, rfl, rfl, rfl⟩ rfl rfl rfl rfl rfl (by kernel_rfl) Try.func4 (by kernel_rfl)
    (of_decide_eq_true (by kernel_rfl)) (by unfold Func.isWrapper; first | (rw [if_pos (by decide +kernel)]; kernel_rfl) | (rw [if_neg (by decide +kernel)]; exact ⟨rfl, rfl⟩))
    (fun os started H enc _ => liftedReplaySuffix os started H enc)

/-- The statement. -/
theorem replaySuffix_holds : Rows.ReplaySuffixSaid := overReplaySuffix
#print axioms replaySuffix_holds
end Go.Proofs.Ytbfkhghegkiifaa
