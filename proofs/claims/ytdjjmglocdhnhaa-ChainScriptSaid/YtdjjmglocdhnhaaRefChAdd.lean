/-
  The reference's Add. Printed by gen_refadd.py.
-/
import Derived.Test.YtdjjmglocdhnhaaRefCh
namespace Go.Proofs.Ytdjjmglocdhnhaa
open Go.RowKit
set_option linter.unusedVariables false
theorem it3_one (s o : Int) (key : ByteArray) : ∀ u ∈ [Value.int .i64 s, .int .i64 o, .string key], u.oneCell' = true := by
  intro u hu
  simp only [List.mem_cons, List.not_mem_nil, or_false] at hu
  rcases hu with rfl | rfl | rfl <;> rfl
theorem slice_low3 (a : Option Addr) (n c m : Nat) (hm : m ≤ n) (W : World) : (Instr.slice 36 (.slice a n c) (some (.int .i64 (m : Int))) none none).run Try.prog W = .ok (.slice (if c = m then a else a.map (·.add (m * 3))) (n - m) (c - m)) W := by
  have hs : (sizeOf (Try.prog.elem 36)).run Try.prog W = .ok 3 W := by kernel_rfl
  rw [run_slice_l (P := Try.prog) W 36 a n c (by kernel_rfl) .i64 (m : Int) (by omega) (by omega), hs]
  rfl
/-- the rest of a list, as a slice and as what append reads -/
theorem src_low3 {w : World} {bm : Nat} {t : TypeId} {L : List It} {a : Option Addr} {n cap : Nat} (p : RLp w bm t 3 L.length (L.flatMap itC3) a cap) (hn : L.length = n) (k : Nat) (hk : k ≤ n) :
    ∃ a9 c9, (∀ W : World, (Instr.slice 36 (.slice a n cap) (some (.int .i64 (k : Int))) none none).run Try.prog W = .ok (.slice a9 (n - k) c9) W) ∧ ∀ W, Below w.heap.size w W → Src W 3 (.slice a9 (n - k) c9) (n - k) ((L.drop k).flatMap itC3) := by
  refine ⟨_, _, slice_low3 a n cap k hk, fun W hW => ?_⟩
  cases a with
  | none =>
    obtain ⟨h0, hc⟩ := p.nil rfl
    have hL : L = [] := List.eq_nil_of_length_eq_zero h0
    subst hL hc
    simp at hn
    subst hn
    have : k = 0 := by omega
    subst this
    exact Vals.src Vals.nil rfl (fun _ => ⟨rfl, rfl⟩)
  | some x =>
    obtain ⟨g, off, rfl, _⟩ := p.plain x rfl
    have := src_drop3 p hW k (by omega) hn
    rw [Option.map_some, Go.WideShapes.add_plain]
    exact this
theorem RStep.trans {w w1 w2 : World} {bm : Nat} {L1 L2 : List It} {R R1 : Nat → Prop} (hf : Fr R w w1) (hn : ∀ j, R1 j → R j ∨ w.heap.size ≤ j) (h : RStep w1 w2 bm L2 R1) : RStep w w2 bm L2 R := by
  obtain ⟨R2, h1, h2, h3⟩ := h
  refine ⟨R2, h1, hf.trans h2 hn, fun j hj => ?_⟩
  rcases h3 j hj with e | e
  · exact hn j e
  · exact .inr (Nat.le_trans hf.size e)
theorem radd_fin {w w1 w4 : World} {bm n k e : Nat} {L : List It} {s o : Int} {key : ByteArray} {R : Nat → Prop} {a : Option Addr} {cap : Nat} (h : RStep w w1 bm (rmI L s o) R) (hn : (rmI L s o).length = n) (hk : k ≤ n)
    (hno : ∀ (j : Nat) (y : It), j < k → (rmI L s o)[j]? = some y → ltI y ⟨s, o, key⟩ = true) (hst : ∀ y, (rmI L s o)[k]? = some y → ltI y ⟨s, o, key⟩ = false) (hb : Below w1.heap.size w1 w4)
    (ho : w4.ownsRow w1.heap.size e 3 (.slice a (k + 1 + (n - k)) cap) (k + 1 + (n - k)) ((((rmI L s o).take k).flatMap itC3 ++ [.int .i64 s, .int .i64 o, .string key]) ++ ((rmI L s o).drop k).flatMap itC3)) :
    RStep w (w4.setCell ⟨bm, 0, none⟩ (.slice a (k + 1 + (n - k)) cap)) bm (adI L s o key) R := by
  obtain ⟨R1, h1, h2, h3⟩ := h
  have e1 : adI L s o key = (rmI L s o).take k ++ ⟨s, o, key⟩ :: (rmI L s o).drop k := insI_at (by omega) hno hst
  refine RStep.trans (L1 := rmI L s o) h2 h3 (rc_fin (e := e) h1 ?_ hb ?_)
  · rw [e1, List.length_append, List.length_cons, List.length_take, List.length_drop]; omega
  · rw [e1, List.flatMap_append, List.flatMap_cons, ← List.append_assoc]
    exact ho
set_option maxRecDepth 100000 in
set_option maxHeartbeats 16000000 in
theorem radd11 (bm : Nat) (R : Nat → Prop) (L : List It) (s o : Int) (key : ByteArray) (w : World) (hL : L.length ≤ 1000) (hA : AscI L) (h : RC w bm L R) :
    Calls Try.prog 11 #[.pointer (some ⟨bm, 0, none⟩), .int .i64 s, .int .i64 o, .string key] w fun e w' => e = .returned (.tuple #[]) ∧ RStep w w' bm (adI L s o key) R := by
  have RM := Lib.hid (rremove13 bm R L s o w hL hA h)
  have hl1 := rmI_length_le L s o
  obtain ⟨i0, hi, hz0, hz1, hz2⟩ := info_parts refinfo
  have I1 := Lib.hid hi; have I2 := Lib.hid hz0; have I3 := Lib.hid hz1; have I4 := Lib.hid hz2
  clear hi hz0 hz1 hz2 hA h
  go_enter Try.func11, Try.ntmps11
  go_wp2_with fail
  with_reducible refine RM.out.mono ?_
  rintro e w1 ⟨rfl, st⟩
  have ST := Lib.hid st
  obtain ⟨R1, h1, -, -⟩ := st
  obtain ⟨a, cap, p, -⟩ := h1
  have c0 := blk_cell (i := 0) p.blk
  have f0 := blk_free (i := 0) p.blk
  simp only [List.getElem?_toArray, List.getElem?_cons_zero] at c0
  have P := Lib.hid p
  have hbm := blk_lt p.blk
  have hle := p.le
  have hmax := p.max
  unfold maxLen at hmax
  obtain ⟨n, hn⟩ : ∃ n, (rmI L s o).length = n := ⟨_, rfl⟩
  have HN := Lib.hid hn
  rw [hn] at c0 hle hl1
  clear p hn RM
  generalize decide (HasO L s o) = bb
  go_wp2_with fail
  go_loop [8] (fun i => ∃ k : Nat, k ≤ n ∧ i = .int .i64 k ∧ Hid (∀ (j : Nat) (x : It), j < k → (rmI L s o)[j]? = some x → ltI x ⟨s, o, key⟩ = true)) (fun i => n - (intOf i).toNat)
  case atStart => exact ⟨0, Nat.zero_le _, rfl, Lib.hid (fun j x h => by omega)⟩
  case round =>
    obtain ⟨k, hk, rfl, NO⟩ := hrel
    by_cases hlt : k < n
    · obtain ⟨y, hy⟩ : ∃ y, (rmI L s o)[k]? = some y := ⟨_, List.getElem?_eq_getElem (by have := HN.out; omega)⟩
      obtain ⟨g, off, rfl, hg, e0, e1, -⟩ := P.out.item k y hy
      have HY := Lib.hid hy
      clear hy
      have hkk : (k : Int) < n := by omega
      have NX := Lib.hid (fun (hlx : ltI y ⟨s, o, key⟩ = true) => show ∀ (j : Nat) (x : It), j < k + 1 → (rmI L s o)[j]? = some x → ltI x ⟨s, o, key⟩ = true from fun j x hj hx => by
        by_cases e : j = k
        · subst e; rw [HY.out] at hx; cases hx; exact hlx
        · exact NO.out j x (by omega) hx)
      have SX := Lib.hid (fun (hst : ltI y ⟨s, o, key⟩ = false) => show ∀ x, (rmI L s o)[k]? = some x → ltI x ⟨s, o, key⟩ = false from fun x hx => by rw [HY.out] at hx; cases hx; exact hst)
      by_cases h1 : y.seq < s
      · have t1 : decide (y.seq < s) = true := by simp [h1]
        have NO2 := Lib.hid (NX.out (by rw [ltI_iff]; exact .inl h1))
        clear h1
        go_wp2_with fail
        go_round
        case rel => exact ⟨k + 1, by omega, by go_num, NO2⟩
        case measure => simp [intOf]; omega
      · have t1 : decide (y.seq < s) = false := by simp; omega
        by_cases h2 : y.seq = s
        · have t2 : (y.seq == s) = true := by simp [h2]
          by_cases h3 : y.off < o
          · have t3 : decide (y.off < o) = true := by simp [h3]
            have NO2 := Lib.hid (NX.out (by rw [ltI_iff]; exact .inr ⟨h2, h3⟩))
            clear h1 h2 h3
            go_wp2_with fail
            go_round
            case rel => exact ⟨k + 1, by omega, by go_num, NO2⟩
            case measure => simp [intOf]; omega
          · have t3 : decide (y.off < o) = false := by simp; omega
            have STOP := Lib.hid (SX.out (by unfold ltI; simp; omega))
            clear h1 h2 h3
            have k0 : (0 : Int) ≤ (k : Int) := by omega
            have hkcap : (k : Int) ≤ cap := by omega
            have hkn' : (k : Int) ≤ n := by omega
            have ST1 := Lib.hid (fun (W : World) (hW : Below w1.heap.size w1 W) => (src_take3 P.out hW k (by have := HN.out; omega) : Src W 3 (.slice (some ⟨g, off, none⟩) k cap) k (((rmI L s o).take k).flatMap itC3)))
            obtain ⟨a9, c9, hs9, st9⟩ := src_low3 P.out HN.out k (by omega)
            have ST2 := Lib.hid st9
            clear st9
            go_wp2_with (at_builtin; refine Stop.out ?_)
            refine Stop.of (wpList_app rfl _ _ 36 rfl w1.heap.size 43 i0 (.agg #[.int .i64 0, .int .i64 0, .string ByteArray.empty]) 3 32 Try.underlying36 I1.out I2.out I3.out I4.out rfl (by decide) _ 0 [] rfl (own_nil _ _ _ _) _ k (((rmI L s o).take k).flatMap itC3) rfl (ST1.out _ (Below.refl _ _)) (itC3_one _) (by unfold maxLen; omega) (by omega) (Nat.le_refl _) ?_)
            intro v2 w2 hown2 hg2
            simp only [Nat.zero_add, List.nil_append] at hown2
            have hs2 := keepG1 ⟨c0, f0, Below.refl _ _⟩ hbm hg2
            have S2 := Lib.hid hs2
            have O2 := Lib.hid hown2
            obtain ⟨k2, kf2, kb2⟩ := hs2
            have hsz2 := kb2.size
            clear hown2 hg2 c0 f0 kb2
            have hm3 : k + 1 ≤ maxLen := by unfold maxLen; omega
            have hm4 : k + 1 + (n - k) ≤ maxLen := by unfold maxLen; omega
            go_wp2_with fail
            have S3 := Lib.hid (show (w2.alloc (.cells #[.int .i64 s, .int .i64 o, .string key] 43)).drew.cell? ⟨bm, 0, none⟩ = some (.slice (some ⟨g, off, none⟩) n cap) ∧ (w2.alloc (.cells #[.int .i64 s, .int .i64 o, .string key] 43)).drew.frozen? ⟨bm, 0, none⟩ = false ∧ Below w1.heap.size w1 (w2.alloc (.cells #[.int .i64 s, .int .i64 o, .string key] 43)).drew from keepG4 S2.out hbm)
            have q3 : (w2.alloc (.cells #[.int .i64 s, .int .i64 o, .string key] 43)).cell? ⟨bm, 0, none⟩ = some (.slice (some ⟨g, off, none⟩) n cap) := (keepG3 S2.out hbm).1
            have qf3 : (w2.alloc (.cells #[.int .i64 s, .int .i64 o, .string key] 43)).frozen? ⟨bm, 0, none⟩ = false := (keepG3 S2.out hbm).2.1
            have hsz3 : w1.heap.size ≤ (w2.alloc (.cells #[.int .i64 s, .int .i64 o, .string key] 43)).drew.heap.size := S3.out.2.2.size
            go_region_law
              (first
                | ((with_reducible apply step_app (hgd := rfl) (t := 36) (base := w1.heap.size) (e := 43) (i := i0) (z := .agg #[.int .i64 0, .int .i64 0, .string ByteArray.empty]) (size := 3) (bytes := 32) (v := v2) (n := k) (xs := ((rmI L s o).take k).flatMap itC3) (m := 1) (news := [.int .i64 s, .int .i64 o, .string key]) (ht := Try.underlying36) (hi := I1.out) (hz := I2.out) (hsize := I3.out) (hby := I4.out) (hzs := rfl)); (case ho => exact rfl); (case hs => exact rfl); (case hx => exact rfl); (case hsz => decide); (case hown => exact (O2.out.alloc _).drew); (case hsrc => exact src_lit #[.int .i64 s, .int .i64 o, .string key] (0, 0) (heap_alloc_new w2 _) rfl); (case h1 => exact it3_one s o key); (case h63 => exact hm3); (case hbytes => omega); (case hbase => exact hsz3); (intro v3 w3 hown3 hgrow3); (have hs3 := keepG2 S3.out hbm ((O2.out.alloc _).drew) hgrow3); (obtain ⟨k3, kf3, kb3⟩ := id hs3))
                | ((with_reducible apply step_app (hgd := rfl) (t := 36) (base := w1.heap.size) (e := 43) (i := i0) (z := .agg #[.int .i64 0, .int .i64 0, .string ByteArray.empty]) (size := 3) (bytes := 32) (v := v3) (n := k + 1) (xs := ((rmI L s o).take k).flatMap itC3 ++ [.int .i64 s, .int .i64 o, .string key]) (m := n - k) (news := ((rmI L s o).drop k).flatMap itC3) (ht := Try.underlying36) (hi := I1.out) (hz := I2.out) (hsize := I3.out) (hby := I4.out) (hzs := rfl)); (case ho => exact rfl); (case hs => exact rfl); (case hx => exact rfl); (case hsz => decide); (case hown => exact hown3); (case hsrc => exact ST2.out _ hs3.2.2); (case h1 => exact itC3_one _); (case h63 => exact hm4); (case hbytes => omega); (case hbase => exact hs3.2.2.size); (intro v4 w4 hown4 hgrow4); (have hs4 := keepG2 hs3 hbm hown3 hgrow4); (obtain ⟨k4, kf4, kb4⟩ := id hs4); (obtain ⟨a4, cap4, rfl⟩ := ownsRow_slice hown4)))
            all_goals
              have FIN := Lib.hid (show RStep w (w4.setCell ⟨bm, 0, none⟩ (.slice a4 (k + 1 + (n - k)) cap4)) bm (adI L s o key) R from radd_fin ST.out HN.out hk NO.out STOP.out kb4 hown4)
              clear kb4 hown4
              go_wp2_with fail
              all_goals go_end0
              all_goals exact ⟨rfl, FIN.out⟩
        · have t2 : (y.seq == s) = false := by simp [h2]
          have STOP := Lib.hid (SX.out (by unfold ltI; simp; omega))
          clear h1 h2
          have k0 : (0 : Int) ≤ (k : Int) := by omega
          have hkcap : (k : Int) ≤ cap := by omega
          have hkn' : (k : Int) ≤ n := by omega
          have ST1 := Lib.hid (fun (W : World) (hW : Below w1.heap.size w1 W) => (src_take3 P.out hW k (by have := HN.out; omega) : Src W 3 (.slice (some ⟨g, off, none⟩) k cap) k (((rmI L s o).take k).flatMap itC3)))
          obtain ⟨a9, c9, hs9, st9⟩ := src_low3 P.out HN.out k (by omega)
          have ST2 := Lib.hid st9
          clear st9
          go_wp2_with (at_builtin; refine Stop.out ?_)
          refine Stop.of (wpList_app rfl _ _ 36 rfl w1.heap.size 43 i0 (.agg #[.int .i64 0, .int .i64 0, .string ByteArray.empty]) 3 32 Try.underlying36 I1.out I2.out I3.out I4.out rfl (by decide) _ 0 [] rfl (own_nil _ _ _ _) _ k (((rmI L s o).take k).flatMap itC3) rfl (ST1.out _ (Below.refl _ _)) (itC3_one _) (by unfold maxLen; omega) (by omega) (Nat.le_refl _) ?_)
          intro v2 w2 hown2 hg2
          simp only [Nat.zero_add, List.nil_append] at hown2
          have hs2 := keepG1 ⟨c0, f0, Below.refl _ _⟩ hbm hg2
          have S2 := Lib.hid hs2
          have O2 := Lib.hid hown2
          obtain ⟨k2, kf2, kb2⟩ := hs2
          have hsz2 := kb2.size
          clear hown2 hg2 c0 f0 kb2
          have hm3 : k + 1 ≤ maxLen := by unfold maxLen; omega
          have hm4 : k + 1 + (n - k) ≤ maxLen := by unfold maxLen; omega
          go_wp2_with fail
          have S3 := Lib.hid (show (w2.alloc (.cells #[.int .i64 s, .int .i64 o, .string key] 43)).drew.cell? ⟨bm, 0, none⟩ = some (.slice (some ⟨g, off, none⟩) n cap) ∧ (w2.alloc (.cells #[.int .i64 s, .int .i64 o, .string key] 43)).drew.frozen? ⟨bm, 0, none⟩ = false ∧ Below w1.heap.size w1 (w2.alloc (.cells #[.int .i64 s, .int .i64 o, .string key] 43)).drew from keepG4 S2.out hbm)
          have q3 : (w2.alloc (.cells #[.int .i64 s, .int .i64 o, .string key] 43)).cell? ⟨bm, 0, none⟩ = some (.slice (some ⟨g, off, none⟩) n cap) := (keepG3 S2.out hbm).1
          have qf3 : (w2.alloc (.cells #[.int .i64 s, .int .i64 o, .string key] 43)).frozen? ⟨bm, 0, none⟩ = false := (keepG3 S2.out hbm).2.1
          have hsz3 : w1.heap.size ≤ (w2.alloc (.cells #[.int .i64 s, .int .i64 o, .string key] 43)).drew.heap.size := S3.out.2.2.size
          go_region_law
            (first
              | ((with_reducible apply step_app (hgd := rfl) (t := 36) (base := w1.heap.size) (e := 43) (i := i0) (z := .agg #[.int .i64 0, .int .i64 0, .string ByteArray.empty]) (size := 3) (bytes := 32) (v := v2) (n := k) (xs := ((rmI L s o).take k).flatMap itC3) (m := 1) (news := [.int .i64 s, .int .i64 o, .string key]) (ht := Try.underlying36) (hi := I1.out) (hz := I2.out) (hsize := I3.out) (hby := I4.out) (hzs := rfl)); (case ho => exact rfl); (case hs => exact rfl); (case hx => exact rfl); (case hsz => decide); (case hown => exact (O2.out.alloc _).drew); (case hsrc => exact src_lit #[.int .i64 s, .int .i64 o, .string key] (0, 0) (heap_alloc_new w2 _) rfl); (case h1 => exact it3_one s o key); (case h63 => exact hm3); (case hbytes => omega); (case hbase => exact hsz3); (intro v3 w3 hown3 hgrow3); (have hs3 := keepG2 S3.out hbm ((O2.out.alloc _).drew) hgrow3); (obtain ⟨k3, kf3, kb3⟩ := id hs3))
              | ((with_reducible apply step_app (hgd := rfl) (t := 36) (base := w1.heap.size) (e := 43) (i := i0) (z := .agg #[.int .i64 0, .int .i64 0, .string ByteArray.empty]) (size := 3) (bytes := 32) (v := v3) (n := k + 1) (xs := ((rmI L s o).take k).flatMap itC3 ++ [.int .i64 s, .int .i64 o, .string key]) (m := n - k) (news := ((rmI L s o).drop k).flatMap itC3) (ht := Try.underlying36) (hi := I1.out) (hz := I2.out) (hsize := I3.out) (hby := I4.out) (hzs := rfl)); (case ho => exact rfl); (case hs => exact rfl); (case hx => exact rfl); (case hsz => decide); (case hown => exact hown3); (case hsrc => exact ST2.out _ hs3.2.2); (case h1 => exact itC3_one _); (case h63 => exact hm4); (case hbytes => omega); (case hbase => exact hs3.2.2.size); (intro v4 w4 hown4 hgrow4); (have hs4 := keepG2 hs3 hbm hown3 hgrow4); (obtain ⟨k4, kf4, kb4⟩ := id hs4); (obtain ⟨a4, cap4, rfl⟩ := ownsRow_slice hown4)))
          all_goals
            have FIN := Lib.hid (show RStep w (w4.setCell ⟨bm, 0, none⟩ (.slice a4 (k + 1 + (n - k)) cap4)) bm (adI L s o key) R from radd_fin ST.out HN.out hk NO.out STOP.out kb4 hown4)
            clear kb4 hown4
            go_wp2_with fail
            all_goals go_end0
            all_goals exact ⟨rfl, FIN.out⟩
    · have hnk : n ≤ k := by omega
      have hnk2 : ¬ (k : Int) < n := by omega
      have STOP := Lib.hid (show ∀ x, (rmI L s o)[k]? = some x → ltI x ⟨s, o, key⟩ = false from fun x hx => by
        have := (List.getElem?_eq_some_iff.1 hx).1
        have := HN.out
        omega)
      have k0 : (0 : Int) ≤ (k : Int) := by omega
      have hkcap : (k : Int) ≤ cap := by omega
      have hkn' : (k : Int) ≤ n := by omega
      have ST1 := Lib.hid (fun (W : World) (hW : Below w1.heap.size w1 W) => (src_take3 P.out hW k (by have := HN.out; omega) : Src W 3 (.slice a k cap) k (((rmI L s o).take k).flatMap itC3)))
      obtain ⟨a9, c9, hs9, st9⟩ := src_low3 P.out HN.out k (by omega)
      rw [show n - k = 0 from by omega] at hs9 st9
      have ST2 := Lib.hid st9
      clear st9
      go_wp2_with (at_builtin; refine Stop.out ?_)
      refine Stop.of (wpList_app rfl _ _ 36 rfl w1.heap.size 43 i0 (.agg #[.int .i64 0, .int .i64 0, .string ByteArray.empty]) 3 32 Try.underlying36 I1.out I2.out I3.out I4.out rfl (by decide) _ 0 [] rfl (own_nil _ _ _ _) _ k (((rmI L s o).take k).flatMap itC3) rfl (ST1.out _ (Below.refl _ _)) (itC3_one _) (by unfold maxLen; omega) (by omega) (Nat.le_refl _) ?_)
      intro v2 w2 hown2 hg2
      simp only [Nat.zero_add, List.nil_append] at hown2
      have hs2 := keepG1 ⟨c0, f0, Below.refl _ _⟩ hbm hg2
      have S2 := Lib.hid hs2
      have O2 := Lib.hid hown2
      obtain ⟨k2, kf2, kb2⟩ := hs2
      have hsz2 := kb2.size
      clear hown2 hg2 c0 f0 kb2
      have hm3 : k + 1 ≤ maxLen := by unfold maxLen; omega
      have hm4 : k + 1 + (0) ≤ maxLen := by unfold maxLen; omega
      go_wp2_with fail
      have S3 := Lib.hid (show (w2.alloc (.cells #[.int .i64 s, .int .i64 o, .string key] 43)).drew.cell? ⟨bm, 0, none⟩ = some (.slice a n cap) ∧ (w2.alloc (.cells #[.int .i64 s, .int .i64 o, .string key] 43)).drew.frozen? ⟨bm, 0, none⟩ = false ∧ Below w1.heap.size w1 (w2.alloc (.cells #[.int .i64 s, .int .i64 o, .string key] 43)).drew from keepG4 S2.out hbm)
      have q3 : (w2.alloc (.cells #[.int .i64 s, .int .i64 o, .string key] 43)).cell? ⟨bm, 0, none⟩ = some (.slice a n cap) := (keepG3 S2.out hbm).1
      have qf3 : (w2.alloc (.cells #[.int .i64 s, .int .i64 o, .string key] 43)).frozen? ⟨bm, 0, none⟩ = false := (keepG3 S2.out hbm).2.1
      have hsz3 : w1.heap.size ≤ (w2.alloc (.cells #[.int .i64 s, .int .i64 o, .string key] 43)).drew.heap.size := S3.out.2.2.size
      go_region_law
        (first
          | ((with_reducible apply step_app (hgd := rfl) (t := 36) (base := w1.heap.size) (e := 43) (i := i0) (z := .agg #[.int .i64 0, .int .i64 0, .string ByteArray.empty]) (size := 3) (bytes := 32) (v := v2) (n := k) (xs := ((rmI L s o).take k).flatMap itC3) (m := 1) (news := [.int .i64 s, .int .i64 o, .string key]) (ht := Try.underlying36) (hi := I1.out) (hz := I2.out) (hsize := I3.out) (hby := I4.out) (hzs := rfl)); (case ho => exact rfl); (case hs => exact rfl); (case hx => exact rfl); (case hsz => decide); (case hown => exact (O2.out.alloc _).drew); (case hsrc => exact src_lit #[.int .i64 s, .int .i64 o, .string key] (0, 0) (heap_alloc_new w2 _) rfl); (case h1 => exact it3_one s o key); (case h63 => exact hm3); (case hbytes => omega); (case hbase => exact hsz3); (intro v3 w3 hown3 hgrow3); (have hs3 := keepG2 S3.out hbm ((O2.out.alloc _).drew) hgrow3); (obtain ⟨k3, kf3, kb3⟩ := id hs3))
          | ((with_reducible apply step_app (hgd := rfl) (t := 36) (base := w1.heap.size) (e := 43) (i := i0) (z := .agg #[.int .i64 0, .int .i64 0, .string ByteArray.empty]) (size := 3) (bytes := 32) (v := v3) (n := k + 1) (xs := ((rmI L s o).take k).flatMap itC3 ++ [.int .i64 s, .int .i64 o, .string key]) (m := 0) (news := ((rmI L s o).drop k).flatMap itC3) (ht := Try.underlying36) (hi := I1.out) (hz := I2.out) (hsize := I3.out) (hby := I4.out) (hzs := rfl)); (case ho => exact rfl); (case hs => exact rfl); (case hx => exact rfl); (case hsz => decide); (case hown => exact hown3); (case hsrc => exact ST2.out _ hs3.2.2); (case h1 => exact itC3_one _); (case h63 => exact hm4); (case hbytes => omega); (case hbase => exact hs3.2.2.size); (intro v4 w4 hown4 hgrow4); (have hs4 := keepG2 hs3 hbm hown3 hgrow4); (obtain ⟨k4, kf4, kb4⟩ := id hs4); (obtain ⟨a4, cap4, rfl⟩ := ownsRow_slice hown4)))
      all_goals
        have FIN := Lib.hid (show RStep w (w4.setCell ⟨bm, 0, none⟩ (.slice a4 (k + 1 + 0) cap4)) bm (adI L s o key) R from by
          have hf := radd_fin (e := 43) (a := a4) (cap := cap4) ST.out HN.out hk NO.out STOP.out kb4 (by rw [show n - k = 0 from by omega]; exact hown4)
          rw [show n - k = 0 from by omega] at hf
          exact hf)
        clear kb4 hown4
        go_wp2_with fail
        all_goals go_end0
        all_goals exact ⟨rfl, FIN.out⟩
end Go.Proofs.Ytdjjmglocdhnhaa
