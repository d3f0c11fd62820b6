/-
  The walk of TableKeys.
-/
import Derived.Test.YtkjhofmimggpnaaTabRead
import Derived.Test.YtkjhofmimggpnaaRead2
namespace Go.Proofs.Ytkjhofmimggpnaa
open Go.RowKit Go.Maps Go.ChangeShapes Go.WideShapes Go.ChangeAt
set_option linter.unusedVariables false
def cutK (k : ByteArray) : ByteArray := if 30 < (k.size : Int) then k.extract 0 30 else k
theorem cut_cases (k : ByteArray) : (30 < (k.size : Int) ∧ cutK k = k.extract 0 30) ∨ ((k.size : Int) ≤ 30 ∧ cutK k = k) := by
  unfold cutK
  split
  · exact .inl ⟨by assumption, rfl⟩
  · exact .inr ⟨by omega, rfl⟩
theorem cutK_size (k : ByteArray) : (cutK k).size ≤ 30 := by
  rcases cut_cases k with ⟨_, h⟩ | ⟨_, h⟩
  · rw [h, ByteArray.size_extract]; omega
  · rw [h]; omega
def lastOf (f : Nat → ByteArray) : Nat → ByteArray → Option Nat
  | 0, _ => none
  | n + 1, c => if f n = c then some n else lastOf f n c
theorem lastOf_self (f : Nat → ByteArray) : ∀ (n i : Nat), i < n → ∃ j, lastOf f n (f i) = some j ∧ j < n
  | 0, i, h => by omega
  | n + 1, i, h => by
    rw [lastOf.eq_2]
    split
    · exact ⟨n, rfl, by omega⟩
    · rename_i hne
      have : i ≠ n := fun e => hne (by rw [e])
      obtain ⟨j, hj, hjn⟩ := lastOf_self f n i (by omega)
      exact ⟨j, hj, by omega⟩
def entI (i : Nat) : Ent := ⟨i, 0, 0, 0, false⟩
def HasL (T : Tab) (f : Nat → ByteArray) (n : Nat) : Prop := ∀ c e, Has T c e ↔ ∃ i, lastOf f n c = some i ∧ e = entI i
theorem hasL_zero {T : Tab} {f : Nat → ByteArray} (h : ∀ c e, ¬ Has T c e) : HasL T f 0 := fun c e => ⟨fun hh => absurd hh (h c e), fun ⟨i, hi, _⟩ => by simp [lastOf] at hi⟩
theorem hasL_set {T T' : Tab} {f : Nat → ByteArray} {n : Nat} (h : HasL T f n) (s : SetI T T' (f n) (entI n)) : HasL T' f (n + 1) := fun c e => by
  rw [s.has, lastOf.eq_2]
  by_cases hc : f n = c
  · subst hc
    simp
  · rw [if_neg hc, h]
    constructor
    · rintro (h1 | h1)
      · exact absurd h1.1.symm hc
      · exact h1.2
    · exact fun h1 => .inr ⟨fun e => hc e.symm, h1⟩
theorem hasL_get {T T' : Tab} {f : Nat → ByteArray} {n : Nat} {c : ByteArray} {b : Bool} {x : Ent} (h : HasL T f n) (g : GetI T T' c b x) : HasL T' f n := fun k e => (g.has k e).trans (h k e)
theorem get_last {T T' : Tab} {f : Nat → ByteArray} {n i j : Nat} {b : Bool} {x : Ent} (h : HasL T f n) (g : GetI T T' (f i) b x) (hj : lastOf f n (f i) = some j) : b = true ∧ x = ⟨(j : Int), 0, 0, 0, false⟩ := by
  have hh : Has T (f i) (entI j) := (h _ _).2 ⟨j, hj, rfl⟩
  have hb : b = true := by
    cases b with
    | true => rfl
    | false => exact absurd hh ((g.miss rfl).1 _)
  subst hb
  obtain ⟨j', hj', rfl⟩ := (h _ _).1 (g.hit rfl)
  rw [hj] at hj'
  cases hj'
  exact ⟨rfl, rfl⟩
theorem last_step {f : Nat → ByteArray} {n i : Nat} : (lastOf f (n + 1) (f i)).getD i = if f n = f i then n else (lastOf f n (f i)).getD i := by
  rw [lastOf.eq_2]
  split <;> rfl
theorem cell_str {w : World} {b off i : Nat} {ks : List ByteArray} {k : ByteArray} (h : Vals w (some ⟨b, off, none⟩) (ks.map Value.string)) (hi : i < ks.length) (hk : ks[i]?.getD ByteArray.empty = k) : w.cell? ⟨b, off + i, none⟩ = some (.string k) := by
  obtain ⟨b', off', hab, _, hc⟩ := h.str i hi
  cases hab
  rw [hc, hk]
theorem keep5 {w : World} {b o n : Nat} {v v0 v1 v2 v3 v4 : Value} (hne : b ≠ n) (h : w.cell? ⟨b, o, none⟩ = some v) :
    (((((w.setCell ⟨n, 0, none⟩ v0).setCell ⟨n, 1, none⟩ v1).setCell ⟨n, 2, none⟩ v2).setCell ⟨n, 3, none⟩ v3).setCell ⟨n, 4, none⟩ v4).cell? ⟨b, o, none⟩ = some v := by
  have hb : (((((w.setCell ⟨n, 0, none⟩ v0).setCell ⟨n, 1, none⟩ v1).setCell ⟨n, 2, none⟩ v2).setCell ⟨n, 3, none⟩ v3).setCell ⟨n, 4, none⟩ v4).heap[b]? = w.heap[b]? := by
    rw [Below.heap_setCell _ _ _ _ hne, Below.heap_setCell _ _ _ _ hne, Below.heap_setCell _ _ _ _ hne, Below.heap_setCell _ _ _ _ hne, Below.heap_setCell _ _ _ _ hne]
  exact (World.cell?_of_block (a := ⟨b, o, none⟩) hb).trans h
theorem cell_set5 {w : World} {n : Nat} {a0 a1 a2 a3 a4 : Value} (h : w.heap[n]? = some (.cells #[a0, a1, a2, a3, a4] 27 (0, 0))) (v0 v1 v2 v3 v4 : Value) :
    (((((w.setCell ⟨n, 0, none⟩ v0).setCell ⟨n, 1, none⟩ v1).setCell ⟨n, 2, none⟩ v2).setCell ⟨n, 3, none⟩ v3).setCell ⟨n, 4, none⟩ v4).cell? ⟨n, 0, none⟩ = some v0 := by
  have q : (((((w.setCell ⟨n, 0, none⟩ v0).setCell ⟨n, 1, none⟩ v1).setCell ⟨n, 2, none⟩ v2).setCell ⟨n, 3, none⟩ v3).setCell ⟨n, 4, none⟩ v4).heap[n]? = some (.cells #[v0, v1, v2, v3, v4] 27 (0, 0)) := by
    rw [blk_set (blk_set (blk_set (blk_set (blk_set h _) _) _) _) _]
    rfl
  have x0 := blk_cell (i := 0) q
  simp only [List.getElem?_toArray, List.getElem?_cons_zero] at x0
  exact x0
theorem fr_set5 {w : World} {a b n : Nat} {v0 v1 v2 v3 v4 : Value} (h1 : a ≤ n) (h2 : n < b) :
    Fr (fun j => a ≤ j ∧ j < b) w (((((w.setCell ⟨n, 0, none⟩ v0).setCell ⟨n, 1, none⟩ v1).setCell ⟨n, 2, none⟩ v2).setCell ⟨n, 3, none⟩ v3).setCell ⟨n, 4, none⟩ v4) := by
  have h : Fr (fun j => j = n) w (((((w.setCell ⟨n, 0, none⟩ v0).setCell ⟨n, 1, none⟩ v1).setCell ⟨n, 2, none⟩ v2).setCell ⟨n, 3, none⟩ v3).setCell ⟨n, 4, none⟩ v4) :=
    ((((fr_set _ _ _ _).trans (fr_set _ _ _ _) (fun j hj => .inl hj)).trans (fr_set _ _ _ _) (fun j hj => .inl hj)).trans (fr_set _ _ _ _) (fun j hj => .inl hj)).trans (fr_set _ _ _ _) (fun j hj => .inl hj)
  exact h.mono (fun j _ e => by subst e; exact ⟨h1, h2⟩)
theorem bel_set5 {w0 w : World} {B n : Nat} {v0 v1 v2 v3 v4 : Value} (h : Below B w0 w) (hn : B ≤ n) :
    Below B w0 (((((w.setCell ⟨n, 0, none⟩ v0).setCell ⟨n, 1, none⟩ v1).setCell ⟨n, 2, none⟩ v2).setCell ⟨n, 3, none⟩ v3).setCell ⟨n, 4, none⟩ v4) :=
  ((((h.setCell hn _).setCell hn _).setCell hn _).setCell hn _).setCell hn _
theorem new_kept {w w' : World} {o : Obj} (h : ∀ j, w.heap.size ≤ j → j < (w.alloc o).drew.heap.size → w'.heap[j]? = (w.alloc o).drew.heap[j]?) : w'.heap[w.heap.size]? = some o := by
  rw [h w.heap.size (Nat.le_refl _) (by show w.heap.size < (w.alloc o).heap.size; simp)]
  show (w.heap.push o)[w.heap.size]? = _
  simp
set_option maxRecDepth 100000 in
set_option maxHeartbeats 16000000 in
theorem keyslaw (a : Option Addr) (len cap : Nat) (ks : List ByteArray) (w : World) (hl : len ≤ cap) (hc : cap ≤ 9223372036854775807) (ha : a = none → len = 0 ∧ cap = 0) (hlen : ks.length = len) (hv : Vals w a (ks.map Value.string)) (hks : ∀ k ∈ ks, k.size ≤ maxLen) :
    Calls Try.prog 3 #[.slice a len cap] w fun e w' => e = .returned (.bool true) ∧ Below w.heap.size w w' := by
  have HV := Lib.hid hv
  have HKS := Lib.hid hks
  clear hv hks
  go_enter Try.func3, Try.ntmps3
  go_wp2_with fail
  with_reducible refine (new_ob _).mono ?_
  rintro e w1 ⟨tb, T1, rfl, o1, n1, m1⟩
  have O1 := Lib.hid o1
  have M1 := Lib.hid m1
  clear o1 m1
  go_upto_region 3 with fail
  obtain ⟨n, hn⟩ : ∃ n : Nat, (if 20 < (len : Int) then (20 : Int) else (len : Int)) = (n : Int) := ⟨(if 20 < (len : Int) then (20 : Int) else (len : Int)).toNat, by split <;> omega⟩
  have hn20 : n ≤ 20 := by split at hn <;> omega
  have hnl : n ≤ len := by split at hn <;> omega
  have hnc : n ≤ cap := by omega
  rw [hn, Int.toNat_natCast]
  clear hn
  obtain ⟨f, hfe⟩ : ∃ f : Nat → ByteArray, (fun i => cutK (ks[i]?.getD ByteArray.empty)) = f := ⟨_, rfl⟩
  have hff : ∀ i, cutK (ks[i]?.getD ByteArray.empty) = f i := fun i => by rw [← hfe]
  have hfs : ∀ i, (f i).size ≤ 9223372036854775807 := fun i => by
    have := cutK_size (ks[i]?.getD ByteArray.empty)
    rw [hff] at this; omega
  have HFF := Lib.hid hff
  have HFS := Lib.hid hfs
  have KS := Lib.hid (fun i (hi : i < n) => by
    have := all_getD (d := ByteArray.empty) HKS.out i (by omega)
    unfold maxLen at this
    exact this)
  clear hff hfs hfe ha
  go_wp2_with fail
  go_loopg [4, 5, 19] n (fun gk _ _ iv wr => ∃ (j : Nat) (T : Tab), j ≤ n ∧ iv = .int .i64 j ∧ gk + j = n ∧ Tob w wr tb T ∧ T.tot ≤ j ∧ Hid (HasL T f j))
  case atStart => exact ⟨0, T1, by omega, rfl, by omega, O1.out, by omega, Lib.hid (hasL_zero M1.out)⟩
  case round =>
    obtain ⟨j, T, hj, rfl, hgk, ot, htot, hh⟩ := hrel
    have O := Lib.hid ot
    have GK := Lib.hid hgk
    clear ot hgk O1 M1
    by_cases hlt : j < n
    · obtain ⟨kj, hkj⟩ : ∃ k, ks[j]?.getD ByteArray.empty = k := ⟨_, rfl⟩
      obtain ⟨b, off, rfl, hb, c0⟩ := (HV.out.below O.out.bel (Nat.le_refl _)).str j (by omega)
      rw [hkj] at c0
      have hfj := HFF.out j
      rw [hkj] at hfj
      have hsz := KS.out j hlt
      rw [hkj] at hsz
      have SET := Lib.hid (set_ob tb T (f j) (entI j) w wr O.out (HFS.out j) (by omega))
      have HFJ := Lib.hid hfj
      unfold entV entI at SET
      rcases cut_cases kj with ⟨h30, hcut⟩ | ⟨h30, hcut⟩
      all_goals
        rw [hcut] at hfj
        rw [← hfj] at SET
        have HC := Lib.hid hfj
        clear hfj hcut hkj
        go_wp2_with fail
        with_reducible refine SET.out.mono ?_
        rintro e w3 ⟨rfl, T3, o3, s3⟩
        have O3 := Lib.hid o3
        have ht3 : T3.tot ≤ j + 1 := by rcases s3.tot with ⟨_, h⟩ | ⟨_, h⟩ <;> omega
        rw [HC.out] at s3
        have H3 := Lib.hid (hasL_set hh.out s3)
        clear o3 s3 SET c0 hb h30
        go_wp2_with fail
        go_roundg (n - (j + 1))
        case measure => have := GK.out; omega
        case rel => exact ⟨j + 1, T3, by omega, by go_num, by omega, O3.out, ht3, H3⟩
    · have hjn : j = n := by omega
      subst hjn
      have HH := Lib.hid hh.out
      clear hlt hh GK
      go_wp2_with fail
      go_loopg [6, 7, 9, 10, 36] j (fun gk _ _ _ _ iv wr => ∃ (i : Nat) (T : Tab), i ≤ j ∧ iv = .int .i64 i ∧ gk + i = j ∧ Tob w wr tb T ∧ Hid (HasL T f j))
      case atStart => exact ⟨0, T, by omega, rfl, by omega, O.out, HH⟩
      case round =>
        obtain ⟨i, T2, hi, rfl, hgk, ot, hh⟩ := hrel
        have O2 := Lib.hid ot
        have GK := Lib.hid hgk
        clear ot hgk O HH htot
        by_cases hlt : i < j
        · obtain ⟨ki, hki⟩ : ∃ k, ks[i]?.getD ByteArray.empty = k := ⟨_, rfl⟩
          have hfi := HFF.out i
          rw [hki] at hfi
          have hsi := KS.out i hlt
          rw [hki] at hsi
          obtain ⟨b, off, rfl, hb, ci⟩ := (HV.out.below O2.out.bel (Nat.le_refl _)).str i (by omega)
          rw [hki] at ci
          have HKI := Lib.hid hki
          have HFI := Lib.hid hfi
          clear hfi hki
          go_wp2_with fail
          go_loopg [7, 8, 42] j (fun gk lv _ jv wr' => ∃ (t : Nat), t ≤ j ∧ jv = .int .i64 t ∧ gk + t = j ∧ lv = .int .i64 (((lastOf f t (f i)).getD i : Nat) : Int) ∧ Tob w wr' tb T2)
          case atStart => exact ⟨0, by omega, rfl, by omega, rfl, O2.out⟩
          case round =>
            obtain ⟨t, ht, rfl, hgk, rfl, ot⟩ := hrel
            have O3 := Lib.hid ot
            have GK2 := Lib.hid hgk
            clear ot hgk ci hb
            obtain ⟨b', off', hab, hb, ci⟩ := (HV.out.below O3.out.bel (Nat.le_refl _)).str i (by omega)
            rw [HKI.out] at ci
            cases hab
            by_cases hlt2 : t < j
            · obtain ⟨kt, hkt⟩ : ∃ k, ks[t]?.getD ByteArray.empty = k := ⟨_, rfl⟩
              have hft := HFF.out t
              rw [hkt] at hft
              have hst := KS.out t hlt2
              rw [hkt] at hst
              obtain ⟨b'', off'', hab, hb2, ct⟩ := (HV.out.below O3.out.bel (Nat.le_refl _)).str t (by omega)
              rw [hkt] at ct
              cases hab
              have LS := Lib.hid (last_step (f := f) (n := t) (i := i))
              have HFT := Lib.hid hft
              clear hft hkt
              by_cases heq : f t = f i
              · rcases cut_cases kt with ⟨h30, hcut⟩ | ⟨h30, hcut⟩
                all_goals
                  rcases cut_cases ki with ⟨h31, hcut2⟩ | ⟨h31, hcut2⟩
                all_goals
                  have hbe : (cutK kt).toList = (cutK ki).toList := by rw [HFT.out, HFI.out, heq]
                  rw [hcut, hcut2] at hbe
                  have hbe' := beq_iff_eq.2 hbe
                  have HEQ := Lib.hid heq
                  clear hbe hcut hcut2 heq
                  go_wp2_with fail
                  go_quiet (fail)
                  go_wp2_with fail
                  have O4 := Lib.hid (O3.out.below (below_drewN (Below.refl _ _) nq))
                  go_roundg (j - (t + 1))
                  case measure => have := GK2.out; omega
                  case rel => exact ⟨t + 1, by omega, by go_num, by omega, by rw [LS.out, if_pos HEQ.out], O4.out⟩
              · rcases cut_cases kt with ⟨h30, hcut⟩ | ⟨h30, hcut⟩
                all_goals
                  rcases cut_cases ki with ⟨h31, hcut2⟩ | ⟨h31, hcut2⟩
                all_goals
                  have hbe : ((cutK kt).toList == (cutK ki).toList) = false := by
                    rw [beq_eq_false_iff_ne]
                    intro e
                    exact heq (by rw [← HFT.out, ← HFI.out]; exact toList_inj' e)
                  rw [hcut, hcut2] at hbe
                  have HEQ := Lib.hid heq
                  clear hcut hcut2 heq
                  go_wp2_with fail
                  go_quiet (fail)
                  go_wp2_with fail
                  have O4 := Lib.hid (O3.out.below (below_drewN (Below.refl _ _) nq))
                  go_roundg (j - (t + 1))
                  case measure => have := GK2.out; omega
                  case rel => exact ⟨t + 1, by omega, by go_num, by omega, by rw [LS.out, if_neg HEQ.out], O4.out⟩
            · have htj : t = j := by omega
              subst htj
              clear hlt2 GK2
              have hlenI : i < ks.length := by omega
              have hbw : b < w.heap.size := by obtain ⟨b0, o0, e0, h0, _⟩ := HV.out.str i hlenI; cases e0; exact h0
              have hbn : b ≠ wr.heap.size := by omega
              have HL1 := Lib.hid (show wr.heap.size < (wr.alloc (.cells #[.int .i64 0, .int .i64 0, .int .i64 0, .int .i64 0, .bool false] 27)).drew.heap.size from by show _ < (wr.alloc _).heap.size; simp)
              have KE := Lib.hid (show wr.drew.cell? ⟨b, off + i, none⟩ = some (.string ki) from ci)
              have KD := Lib.hid (show (wr.alloc (.cells #[.int .i64 0, .int .i64 0, .int .i64 0, .int .i64 0, .bool false] 27)).drew.cell? ⟨b, off + i, none⟩ = some (.string ki) from (World.cell?_alloc_lt wr _ ⟨b, off + i, none⟩ hb).trans ci)
              obtain ⟨L, hL, hLj⟩ := lastOf_self f t i hlt
              rw [hL, Option.getD_some]
              have LL := Lib.hid hL
              have GET := Lib.hid (get_ob tb T2 (f i) w wr.drew (O3.out.below (Below.refl _ _).drew) (HFS.out i))
              have GETB := Lib.hid (get_obk tb T2 (f i) w wr (wr.alloc (.cells #[.int .i64 0, .int .i64 0, .int .i64 0, .int .i64 0, .bool false] 27)).drew O3.out (((Below.refl _ _).alloc (Nat.le_refl _) _).drew) (HFS.out i))
              have KC := Lib.hid (fun (W : World) (hW : Below w.heap.size w W) => cell_str (HV.out.below hW (Nat.le_refl _)) hlenI HKI.out)
              go_upto_region 18 with fail
              go_cut [9, 10] (fun ev ok wx => ∃ (eb : Nat) (T3 : Tab), ev = .pointer (some ⟨eb, 0, none⟩) ∧ ok = .bool true ∧ wx.cell? ⟨eb, 0, none⟩ = some (.int .i64 (L : Int)) ∧ Tob w wx tb T3 ∧ Hid (HasL T3 f t))
              case first =>
                rcases cut_cases ki with ⟨h31, hcut2⟩ | ⟨h31, hcut2⟩
                all_goals
                  have hfi := HFI.out
                  rw [hcut2] at hfi
                  rw [← hfi] at GET GETB
                  have HFI2 := Lib.hid hfi
                  have hb30 : (30 : Int) ≤ 30 := by omega
                  have hbk0 : (0 : Int) ≤ (ki.size : Int) := by omega
                  have hbk1 : (ki.size : Int) ≤ (ki.size : Int) := by omega
                  first
                    | (have hb31 : (30 : Int) ≤ (ki.size : Int) := by omega)
                    | (have hb31 : ¬ (30 : Int) < (ki.size : Int) := by omega
                       have hb32 : (if (30 : Int) < (ki.size : Int) then (30 : Int) else (ki.size : Int)) = (ki.size : Int) := if_neg hb31
                       have hb33 : decide ((30 : Int) < (ki.size : Int)) = false := decide_eq_false hb31
                       have hb34 : ¬ (ki.size : Int) < 0 := by omega
                       have hb35 : ¬ ki.size < ki.size := by omega)
                  clear hfi hcut2 hL
                  clear HKS n1 HFF HFS O2 HKI HFI KS
                  go_region_held3 (fun w' => w'.cell? ⟨b, off + i, none⟩ = some (.string ki)) (first | (with_reducible assumption) | (with_reducible exact KE.out) | (with_reducible exact KD.out) | (with_reducible exact hS3) | (with_reducible exact (World.cell?_alloc_lt _ _ _ hb3).trans hS3) | (with_reducible exact keep5 hbn hS3) | (with_reducible exact keep5 (Nat.ne_of_lt hb3) ((World.cell?_alloc_lt _ _ _ hb3).trans hS3)))
                    (first
                      | (go_at_call 10; (with_reducible refine GET.out.mono ?_); rintro e w3 ⟨bb, x, T3, rfl, o3, g3⟩; have hS3 := KC.out w3 o3.bel; have hb3 : b < w3.heap.size := Nat.lt_of_lt_of_le hbw o3.bel.size)
                      | (go_at_call 10; (with_reducible refine GETB.out.mono ?_); rintro e w3 ⟨bb, x, T3, rfl, ⟨o3, k3, kk3⟩, g3⟩; have hS3 := KC.out w3 o3.bel; have hx3 := new_kept k3; have x0 := blk_cell (i := 0) hx3; have x1 := blk_cell (i := 1) hx3; have x2 := blk_cell (i := 2) hx3; have x3 := blk_cell (i := 3) hx3; have x4 := blk_cell (i := 4) hx3; have y0 := blk_free (i := 0) hx3; have y1 := blk_free (i := 1) hx3; have y2 := blk_free (i := 2) hx3; have y3 := blk_free (i := 3) hx3; have y4 := blk_free (i := 4) hx3; simp only [List.getElem?_toArray, List.getElem?_cons_zero, List.getElem?_cons_succ] at x0 x1 x2 x3 x4))
                  all_goals
                    obtain ⟨e1, e2⟩ := get_last hh.out (by rw [HFI2.out] at g3; exact g3) LL.out
                    subst e1 e2
                    have O4 := Lib.hid o3
                    have H4 := Lib.hid (hasL_get hh.out g3)
                    clear o3 g3
                    go_wp2_with fail
                    first
                      | (go_meet; exact ⟨w3.heap.size, T3, rfl, rfl, by rw [World.cell?_alloc_at _ _ _ _ rfl]; rfl, Tob.below O4.out ((Below.refl _ _).alloc (Nat.le_refl _) _), H4⟩)
                      | (go_meet; refine ⟨wr.heap.size, T3, rfl, rfl, cell_set5 hx3 _ _ _ _ _, ?_, H4⟩; exact kk3 _ (fr_set5 (Nat.le_refl _) HL1.out))
              case rest =>
                obtain ⟨eb, T3, rfl, rfl, hcell, o4, h4⟩ := hcut
                have O4 := Lib.hid o4
                clear o4 ci KC KD KE
                go_wp2_with fail
                go_roundg (t - (i + 1))
                case measure => have := GK.out; omega
                case rel => exact ⟨i + 1, T3, by omega, by go_num, by omega, O4.out, h4⟩
        · have hij : i = j := by omega
          subst hij
          clear hlt
          go_wp2_with fail
          with_reducible refine (awake11 _).mono ?_
          rintro e w3 ⟨rfl, hb3⟩
          have O3 := Lib.hid (O2.out.below hb3)
          clear hb3
          go_wp2_with fail
          go_ret
          exact ⟨rfl, O3.out.bel⟩
end Go.Proofs.Ytkjhofmimggpnaa
