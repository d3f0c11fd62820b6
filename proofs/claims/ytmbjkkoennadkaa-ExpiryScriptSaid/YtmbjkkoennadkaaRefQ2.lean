/-
  The reference's Put.
-/
import Derived.Test.YtmbjkkoennadkaaRefQ1
import Derived.WalkLawsBesides
namespace Go.Proofs.Ytmbjkkoennadkaa
open Go.RowKit Go.Maps
set_option linter.unusedVariables false
theorem ins_at (L : List Item) (x : Item) (k : Nat) (hk : k ≤ L.length) (h1 : ∀ (j : Nat) (y : Item), j < k → L[j]? = some y → ltI y x = true) (h2 : ∀ y, L[k]? = some y → ltI y x = false) : insL L x = L.take k ++ x :: L.drop k := by
  induction L generalizing k with
  | nil => simp [insL]
  | cons y L ih =>
    cases k with
    | zero =>
      have := h2 y rfl
      unfold insL
      rw [if_neg (by rw [this]; simp)]
      rfl
    | succ k =>
      have := h1 0 y (by omega) rfl
      unfold insL
      rw [if_pos this, ih k (by simpa using hk) (fun j z hj hz => h1 (j + 1) z (by omega) (by simpa using hz)) (fun z hz => h2 z (by simpa using hz))]
      rfl
theorem ltS_def (a b : ByteArray) : ltS a b = Op.bytesLess a.toList b.toList := rfl
theorem put_fin {w w1 w2 : World} {bm e n k : Nat} {R R1 : Nat → Prop} {L : List Item} {key : ByteArray} {x : Int} {a : Option Addr} {cap : Nat} {t : TypeId} (h : RL w1 bm t 2 (remL L key).length (itemCells (remL L key)) R1) (hf : Fr (fun k => k = bm) w w1) (hR : ∀ j, R1 j → R j ∨ w.heap.size ≤ j)
    (hx : 1 ≤ x) (hn : (remL L key).length = n) (hk : k ≤ n) (h1 : ∀ (j : Nat) (y : Item), j < k → (remL L key)[j]? = some y → ltI y ⟨key, x⟩ = true) (h2 : ∀ y, (remL L key)[k]? = some y → ltI y ⟨key, x⟩ = false)
    (hb : Below w1.heap.size w1 w2) (ho : w2.ownsRow w1.heap.size e 2 (.slice a (k + 1 + (n - k)) cap) (k + 1 + (n - k)) (itemCells ((remL L key).take k) ++ [.string key, .int .i64 x] ++ itemCells ((remL L key).drop k))) :
    ∃ R', RL (w2.setCell ⟨bm, 0, none⟩ (.slice a (k + 1 + (n - k)) cap)) bm t 2 (putL L key x).length (itemCells (putL L key x)) R' ∧ Fr (fun k => k = bm) w (w2.setCell ⟨bm, 0, none⟩ (.slice a (k + 1 + (n - k)) cap)) ∧ ∀ j, R' j → R j ∨ w.heap.size ≤ j := by
  subst hn
  have e1 : putL L key x = (remL L key).take k ++ ⟨key, x⟩ :: (remL L key).drop k := by
    unfold putL
    rw [if_neg (by omega), ins_at _ _ k hk h1 h2]
  have e2 : (putL L key x).length = k + 1 + ((remL L key).length - k) := by rw [e1]; simp; omega
  have e3 : itemCells (putL L key x) = itemCells ((remL L key).take k) ++ [.string key, .int .i64 x] ++ itemCells ((remL L key).drop k) := by rw [e1, itemCells_append]; simp [itemCells]
  rw [e2, e3]
  obtain ⟨R', r1, r2, r3⟩ := h.store hb ho (Nat.le_refl _)
  exact ⟨R', r1, hf.trans r2 (fun j hj => .inl hj), fun j hj => (r3 j hj).elim (hR j) (fun h => .inr (Nat.le_trans hf.size h))⟩
theorem put_fin0 {w w1 w2 : World} {bm e : Nat} {R R1 : Nat → Prop} {L : List Item} {key : ByteArray} {x : Int} {a : Option Addr} {cap : Nat} {t : TypeId} (h : RL w1 bm t 2 (remL L key).length (itemCells (remL L key)) R1) (hf : Fr (fun k => k = bm) w w1) (hR : ∀ j, R1 j → R j ∨ w.heap.size ≤ j)
    (hx : 1 ≤ x) (he : remL L key = []) (hb : Below w1.heap.size w1 w2) (ho : w2.ownsRow w1.heap.size e 2 (.slice a (0 + 1 + (0 - 0)) cap) (0 + 1 + (0 - 0)) ([] ++ [.string key, .int .i64 x] ++ [])) :
    ∃ R', RL (w2.setCell ⟨bm, 0, none⟩ (.slice a (0 + 1 + (0 - 0)) cap)) bm t 2 (putL L key x).length (itemCells (putL L key x)) R' ∧ Fr (fun k => k = bm) w (w2.setCell ⟨bm, 0, none⟩ (.slice a (0 + 1 + (0 - 0)) cap)) ∧ ∀ j, R' j → R j ∨ w.heap.size ≤ j :=
  put_fin (k := 0) (n := 0) h hf hR hx (by rw [he]; rfl) (Nat.le_refl _) (fun j y hj => by omega) (fun y hy => by rw [he] at hy; simp at hy) hb (by rw [he]; exact ho)
theorem put_fin1 {w w1 w2 : World} {bm e k : Nat} {R R1 : Nat → Prop} {L : List Item} {key : ByteArray} {x : Int} {a : Option Addr} {cap : Nat} {t : TypeId} (h : RL w1 bm t 2 (remL L key).length (itemCells (remL L key)) R1) (hf : Fr (fun k => k = bm) w w1) (hR : ∀ j, R1 j → R j ∨ w.heap.size ≤ j)
    (hx : 1 ≤ x) (hn : (remL L key).length = k) (hk : k ≤ k) (h1 : ∀ (j : Nat) (y : Item), j < k → (remL L key)[j]? = some y → ltI y ⟨key, x⟩ = true) (h2 : ∀ y, (remL L key)[k]? = some y → ltI y ⟨key, x⟩ = false)
    (hb : Below w1.heap.size w1 w2) (ho : w2.ownsRow w1.heap.size e 2 (.slice a (k + 1 + 0) cap) (k + 1 + 0) (itemCells ((remL L key).take k) ++ [.string key, .int .i64 x] ++ itemCells ((remL L key).drop k))) :
    ∃ R', RL (w2.setCell ⟨bm, 0, none⟩ (.slice a (k + 1 + 0) cap)) bm t 2 (putL L key x).length (itemCells (putL L key x)) R' ∧ Fr (fun k => k = bm) w (w2.setCell ⟨bm, 0, none⟩ (.slice a (k + 1 + 0) cap)) ∧ ∀ j, R' j → R j ∨ w.heap.size ≤ j := by
  have := put_fin (n := k) (a := a) (cap := cap) (w2 := w2) (e := e) h hf hR hx hn hk h1 h2 hb (by rw [Nat.sub_self]; exact ho)
  rwa [Nat.sub_self] at this
theorem one2' (k : ByteArray) (n : Int) : ∀ u ∈ [Value.string k, .int .i64 n], u.oneCell' = true := by
  intro u hu
  simp at hu
  rcases hu with rfl | rfl <;> rfl
set_option maxRecDepth 100000 in
set_option maxHeartbeats 4000000 in
theorem rput13 (bm : Nat) (R : Nat → Prop) (L : List Item) (key : ByteArray) (x : Int) (w : World) (hL : L.length ≤ 1000) (hd : L.Pairwise (fun a b => a.key ≠ b.key)) (h : RL w bm 39 2 L.length (itemCells L) R) :
    Calls Try.prog 13 #[.pointer (some ⟨bm, 0, none⟩), .string key, .int .i64 x] w fun e w' => e = .returned (.tuple #[]) ∧
      ∃ R', RL w' bm 39 2 (putL L key x).length (itemCells (putL L key x)) R' ∧ Fr (fun k => k = bm) w w' ∧ ∀ j, R' j → R j ∨ w.heap.size ≤ j := by
  have RM := Lib.hid (rremove15 bm R L key w hL hd h)
  obtain ⟨i0, hi, hz0, hz1, hz2⟩ := info_parts oneinfo
  have I1 := Lib.hid hi; have I2 := Lib.hid hz0; have I3 := Lib.hid hz1; have I4 := Lib.hid hz2
  have hrl : (remL L key).length ≤ L.length := List.length_filter_le _ _
  clear h hd hi hz0 hz1 hz2
  go_enter Try.func13, Try.ntmps13
  go_wp2_with fail
  with_reducible refine RM.out.mono ?_
  rintro e w1 ⟨rfl, R1, h1, f1, n1⟩
  by_cases hx : x < 1
  · have e : putL L key x = remL L key := by unfold putL; rw [if_pos hx]
    have E := Lib.hid e
    clear e
    go_wp2_with fail
    refine bodyPost_ret (results_none rfl _ _ _) rfl ?_
    rw [E.out]
    exact ⟨rfl, R1, h1, f1, n1⟩
  · have HH := Lib.hid h1
    have F1 := Lib.hid f1
    have N1 := Lib.hid n1
    obtain ⟨a, cap, p, hR⟩ := h1
    clear hR
    have c0 := blk_cell (i := 0) p.blk
    have f0 := blk_free (i := 0) p.blk
    simp only [List.getElem?_toArray, List.getElem?_cons_zero] at c0
    have P := Lib.hid p
    have hbm := blk_lt p.blk
    have hle := p.le
    have hmax := p.max
    unfold maxLen at hmax
    clear p f1 n1
    obtain ⟨n, hn⟩ : ∃ n, (remL L key).length = n := ⟨_, rfl⟩
    have HN := Lib.hid hn
    rw [hn] at c0 hle hrl
    clear hn
    go_wp2_with fail
    go_loop [6] (fun i => ∃ k : Nat, k ≤ n ∧ i = .int .i64 k ∧ Hid (∀ (j : Nat) (y : Item), j < k → (remL L key)[j]? = some y → ltI y ⟨key, x⟩ = true)) (fun i => n - (intOf i).toNat)
    case atStart => exact ⟨0, Nat.zero_le _, rfl, Lib.hid (fun j y h => by omega)⟩
    case round =>
      obtain ⟨k, hk, rfl, hlt⟩ := hrel
      by_cases hkn : k < n
      · obtain ⟨y, hy⟩ : ∃ y, (remL L key)[k]? = some y := ⟨_, List.getElem?_eq_getElem (by have := HN.out; omega)⟩
        obtain ⟨y0, y1⟩ := itemCells_at (remL L key) k y hy
        obtain ⟨g, off, rfl, hg, e0⟩ := P.out.vals.at (k * 2) y0
        obtain ⟨g', off', ha', _, e1⟩ := P.out.vals.at (k * 2 + 1) y1
        simp only [Option.some.injEq, Addr.mk.injEq, and_true] at ha'
        obtain ⟨rfl, rfl⟩ := ha'
        rw [← Nat.add_assoc] at e1
        have HY := Lib.hid hy
        clear y0 y1 hy
        have hkk : (k : Int) < n := by omega
        have hi := ltI_iff y ⟨key, x⟩
        have HI := Lib.hid hi
        clear hi
        by_cases hA : y.at' < x
        · have NO := Lib.hid (show ∀ (j : Nat) (z : Item), j < k + 1 → (remL L key)[j]? = some z → ltI z ⟨key, x⟩ = true from fun j z hj hz => by
            by_cases e : j = k
            · subst e; rw [HY.out] at hz; cases hz; exact HI.out.2 (.inl hA)
            · exact hlt.out j z (by omega) hz)
          go_wp2_with fail
          go_round
          case rel => exact ⟨k + 1, by omega, by go_num, NO⟩
          case measure => simp [intOf]; omega
        · by_cases hB : y.at' = x
          · cases hC : Op.bytesLess y.key.toList key.toList with
            | true =>
              have NO := Lib.hid (show ∀ (j : Nat) (z : Item), j < k + 1 → (remL L key)[j]? = some z → ltI z ⟨key, x⟩ = true from fun j z hj hz => by
                by_cases e : j = k
                · subst e; rw [HY.out] at hz; cases hz; exact HI.out.2 (.inr ⟨hB, hC⟩)
                · exact hlt.out j z (by omega) hz)
              have hB1 : (y.at' == x) = true := by simp [hB]
              clear hB
              go_wp2_with fail
              go_round
              case rel => exact ⟨k + 1, by omega, by go_num, NO⟩
              case measure => simp [intOf]; omega
            | false =>
              have STOP := Lib.hid (show ∀ z, (remL L key)[k]? = some z → ltI z ⟨key, x⟩ = false from fun z hz => by
                rw [HY.out] at hz; cases hz
                rw [← Bool.not_eq_true, HI.out]
                rintro (h | ⟨_, h⟩)
                · exact hA h
                · rw [ltS_def, hC] at h; cases h)
              have hB1 : (y.at' == x) = true := by simp [hB]
              clear hB
              have k0 : (0 : Int) ≤ (k : Int) := by omega
              have hkcap : (k : Int) ≤ cap := by omega
              have hkn' : (k : Int) ≤ n := by omega
              have ST1 := Lib.hid (fun (W : World) (hW : Below w1.heap.size w1 W) => (src_take P.out hW k (by have := HN.out; omega) : Src W 2 (.slice (some ⟨g, off, none⟩) k cap) k (itemCells ((remL L key).take k))))
              have ST2 := Lib.hid (fun (W : World) (hW : Below w1.heap.size w1 W) => src_drop P.out hW k (by have := HN.out; omega) HN.out)
              go_wp2_with (at_builtin; refine Stop.out ?_)
              refine Stop.of (wpList_app rfl _ _ 37 rfl w1.heap.size 46 i0 (.agg #[.string ByteArray.empty, .int .i64 0]) 2 24 Try.underlying37 I1.out I2.out I3.out I4.out rfl (by decide) _ 0 [] rfl (own_nil _ _ _ _) _ k (itemCells ((remL L key).take k)) rfl (ST1.out _ (Below.refl _ _)) (itemCells_one _) (by unfold maxLen; omega) (by omega) (Nat.le_refl _) ?_)
              intro v2 w2 hown2 hg2
              simp only [Nat.zero_add, List.nil_append] at hown2
              have hs2 := keepG1 ⟨c0, f0, Below.refl _ _⟩ hbm hg2
              have S2 := Lib.hid hs2
              have O2 := Lib.hid hown2
              obtain ⟨k2, kf2, kb2⟩ := hs2
              have hsz2 := kb2.size
              clear hown2 hg2 c0 f0 kb2
              have hm3 : k + 1 ≤ maxLen := by unfold maxLen; omega
              have hm4 : k + 1 + (n - k) ≤ maxLen := by unfold maxLen; omega
              go_wp2_with fail
              have S3 := Lib.hid (show (w2.alloc (.cells #[.string key, .int .i64 x] 46)).drew.cell? ⟨bm, 0, none⟩ = some (.slice (some ⟨g, off, none⟩) n cap) ∧ (w2.alloc (.cells #[.string key, .int .i64 x] 46)).drew.frozen? ⟨bm, 0, none⟩ = false ∧ Below w1.heap.size w1 (w2.alloc (.cells #[.string key, .int .i64 x] 46)).drew from keepG4 S2.out hbm)
              have q3 : (w2.alloc (.cells #[.string key, .int .i64 x] 46)).cell? ⟨bm, 0, none⟩ = some (.slice (some ⟨g, off, none⟩) n cap) := (keepG3 S2.out hbm).1
              have qf3 : (w2.alloc (.cells #[.string key, .int .i64 x] 46)).frozen? ⟨bm, 0, none⟩ = false := (keepG3 S2.out hbm).2.1
              have hsz3 : w1.heap.size ≤ (w2.alloc (.cells #[.string key, .int .i64 x] 46)).drew.heap.size := S3.out.2.2.size
              go_region_law
                (first
                  | ((with_reducible apply step_app (hgd := rfl) (t := 37) (base := w1.heap.size) (e := 46) (i := i0) (z := .agg #[.string ByteArray.empty, .int .i64 0]) (size := 2) (bytes := 24) (v := v2) (n := k) (xs := itemCells ((remL L key).take k)) (m := 1) (news := [.string key, .int .i64 x]) (ht := Try.underlying37) (hi := I1.out) (hz := I2.out) (hsize := I3.out) (hby := I4.out) (hzs := rfl)); (case ho => exact rfl); (case hs => exact rfl); (case hx => exact rfl); (case hsz => decide); (case hown => exact (O2.out.alloc _).drew); (case hsrc => exact src_lit #[.string key, .int .i64 x] (0, 0) (heap_alloc_new w2 _) rfl); (case h1 => exact one2' key x); (case h63 => exact hm3); (case hbytes => omega); (case hbase => exact hsz3); (intro v3 w3 hown3 hgrow3); (have hs3 := keepG2 S3.out hbm ((O2.out.alloc _).drew) hgrow3); (obtain ⟨k3, kf3, kb3⟩ := id hs3))
                  | ((with_reducible apply step_app (hgd := rfl) (t := 37) (base := w1.heap.size) (e := 46) (i := i0) (z := .agg #[.string ByteArray.empty, .int .i64 0]) (size := 2) (bytes := 24) (v := v3) (n := k + 1) (xs := itemCells ((remL L key).take k) ++ [.string key, .int .i64 x]) (m := n - k) (news := itemCells ((remL L key).drop k)) (ht := Try.underlying37) (hi := I1.out) (hz := I2.out) (hsize := I3.out) (hby := I4.out) (hzs := rfl)); (case ho => exact rfl); (case hs => exact rfl); (case hx => exact rfl); (case hsz => decide); (case hown => exact hown3); (case hsrc => exact ST2.out _ hs3.2.2); (case h1 => first | exact itemCells_one _ | simp); (case h63 => exact hm4); (case hbytes => omega); (case hbase => exact hs3.2.2.size); (intro v4 w4 hown4 hgrow4); (have hs4 := keepG2 hs3 hbm hown3 hgrow4); (obtain ⟨k4, kf4, kb4⟩ := id hs4); (obtain ⟨a4, cap4, rfl⟩ := ownsRow_slice hown4)))
              all_goals
                go_wp2_with fail
                all_goals go_end0
                all_goals exact ⟨rfl, put_fin HH.out F1.out N1.out (by omega) HN.out hk hlt.out STOP.out kb4 hown4⟩
          · have STOP := Lib.hid (show ∀ z, (remL L key)[k]? = some z → ltI z ⟨key, x⟩ = false from fun z hz => by
              rw [HY.out] at hz; cases hz
              rw [← Bool.not_eq_true, HI.out]
              rintro (h | ⟨h, _⟩)
              · exact hA h
              · exact hB h)
            have hB1 : (y.at' == x) = false := by simp [hB]
            clear hB
            have k0 : (0 : Int) ≤ (k : Int) := by omega
            have hkcap : (k : Int) ≤ cap := by omega
            have hkn' : (k : Int) ≤ n := by omega
            have ST1 := Lib.hid (fun (W : World) (hW : Below w1.heap.size w1 W) => (src_take P.out hW k (by have := HN.out; omega) : Src W 2 (.slice (some ⟨g, off, none⟩) k cap) k (itemCells ((remL L key).take k))))
            have ST2 := Lib.hid (fun (W : World) (hW : Below w1.heap.size w1 W) => src_drop P.out hW k (by have := HN.out; omega) HN.out)
            go_wp2_with (at_builtin; refine Stop.out ?_)
            refine Stop.of (wpList_app rfl _ _ 37 rfl w1.heap.size 46 i0 (.agg #[.string ByteArray.empty, .int .i64 0]) 2 24 Try.underlying37 I1.out I2.out I3.out I4.out rfl (by decide) _ 0 [] rfl (own_nil _ _ _ _) _ k (itemCells ((remL L key).take k)) rfl (ST1.out _ (Below.refl _ _)) (itemCells_one _) (by unfold maxLen; omega) (by omega) (Nat.le_refl _) ?_)
            intro v2 w2 hown2 hg2
            simp only [Nat.zero_add, List.nil_append] at hown2
            have hs2 := keepG1 ⟨c0, f0, Below.refl _ _⟩ hbm hg2
            have S2 := Lib.hid hs2
            have O2 := Lib.hid hown2
            obtain ⟨k2, kf2, kb2⟩ := hs2
            have hsz2 := kb2.size
            clear hown2 hg2 c0 f0 kb2
            have hm3 : k + 1 ≤ maxLen := by unfold maxLen; omega
            have hm4 : k + 1 + (n - k) ≤ maxLen := by unfold maxLen; omega
            go_wp2_with fail
            have S3 := Lib.hid (show (w2.alloc (.cells #[.string key, .int .i64 x] 46)).drew.cell? ⟨bm, 0, none⟩ = some (.slice (some ⟨g, off, none⟩) n cap) ∧ (w2.alloc (.cells #[.string key, .int .i64 x] 46)).drew.frozen? ⟨bm, 0, none⟩ = false ∧ Below w1.heap.size w1 (w2.alloc (.cells #[.string key, .int .i64 x] 46)).drew from keepG4 S2.out hbm)
            have q3 : (w2.alloc (.cells #[.string key, .int .i64 x] 46)).cell? ⟨bm, 0, none⟩ = some (.slice (some ⟨g, off, none⟩) n cap) := (keepG3 S2.out hbm).1
            have qf3 : (w2.alloc (.cells #[.string key, .int .i64 x] 46)).frozen? ⟨bm, 0, none⟩ = false := (keepG3 S2.out hbm).2.1
            have hsz3 : w1.heap.size ≤ (w2.alloc (.cells #[.string key, .int .i64 x] 46)).drew.heap.size := S3.out.2.2.size
            go_region_law
              (first
                | ((with_reducible apply step_app (hgd := rfl) (t := 37) (base := w1.heap.size) (e := 46) (i := i0) (z := .agg #[.string ByteArray.empty, .int .i64 0]) (size := 2) (bytes := 24) (v := v2) (n := k) (xs := itemCells ((remL L key).take k)) (m := 1) (news := [.string key, .int .i64 x]) (ht := Try.underlying37) (hi := I1.out) (hz := I2.out) (hsize := I3.out) (hby := I4.out) (hzs := rfl)); (case ho => exact rfl); (case hs => exact rfl); (case hx => exact rfl); (case hsz => decide); (case hown => exact (O2.out.alloc _).drew); (case hsrc => exact src_lit #[.string key, .int .i64 x] (0, 0) (heap_alloc_new w2 _) rfl); (case h1 => exact one2' key x); (case h63 => exact hm3); (case hbytes => omega); (case hbase => exact hsz3); (intro v3 w3 hown3 hgrow3); (have hs3 := keepG2 S3.out hbm ((O2.out.alloc _).drew) hgrow3); (obtain ⟨k3, kf3, kb3⟩ := id hs3))
                | ((with_reducible apply step_app (hgd := rfl) (t := 37) (base := w1.heap.size) (e := 46) (i := i0) (z := .agg #[.string ByteArray.empty, .int .i64 0]) (size := 2) (bytes := 24) (v := v3) (n := k + 1) (xs := itemCells ((remL L key).take k) ++ [.string key, .int .i64 x]) (m := n - k) (news := itemCells ((remL L key).drop k)) (ht := Try.underlying37) (hi := I1.out) (hz := I2.out) (hsize := I3.out) (hby := I4.out) (hzs := rfl)); (case ho => exact rfl); (case hs => exact rfl); (case hx => exact rfl); (case hsz => decide); (case hown => exact hown3); (case hsrc => exact ST2.out _ hs3.2.2); (case h1 => first | exact itemCells_one _ | simp); (case h63 => exact hm4); (case hbytes => omega); (case hbase => exact hs3.2.2.size); (intro v4 w4 hown4 hgrow4); (have hs4 := keepG2 hs3 hbm hown3 hgrow4); (obtain ⟨k4, kf4, kb4⟩ := id hs4); (obtain ⟨a4, cap4, rfl⟩ := ownsRow_slice hown4)))
            all_goals
              go_wp2_with fail
              all_goals go_end0
              all_goals exact ⟨rfl, put_fin HH.out F1.out N1.out (by omega) HN.out hk hlt.out STOP.out kb4 hown4⟩
      · obtain rfl : k = n := by omega
        have STOP := Lib.hid (show ∀ z, (remL L key)[k]? = some z → ltI z ⟨key, x⟩ = false from fun z hz => by
          have := (List.getElem?_eq_some_iff.1 hz).1
          have := HN.out
          omega)
        rcases Option.eq_none_or_eq_some a with rfl | ⟨ad, rfl⟩
        · obtain ⟨rfl, rfl⟩ : k = 0 ∧ cap = 0 := by
            have := P.out.nil rfl
            have := HN.out
            omega
          have EMP := Lib.hid (show remL L key = [] from List.length_eq_zero_iff.1 HN.out)
          have ST1 := Lib.hid (fun (W : World) (hW : Below w1.heap.size w1 W) => (Vals.src Vals.nil rfl (fun _ => ⟨rfl, rfl⟩) : Src W 2 (.slice none 0 0) 0 []))
          have ST2 := Lib.hid (fun (W : World) (hW : Below w1.heap.size w1 W) => (Vals.src Vals.nil rfl (fun _ => ⟨rfl, rfl⟩) : Src W 2 (.slice none 0 0) 0 []))
          go_wp2_with (at_builtin; refine Stop.out ?_)
          refine Stop.of (wpList_app rfl _ _ 37 rfl w1.heap.size 46 i0 (.agg #[.string ByteArray.empty, .int .i64 0]) 2 24 Try.underlying37 I1.out I2.out I3.out I4.out rfl (by decide) _ 0 [] rfl (own_nil _ _ _ _) _ 0 ([]) rfl (ST1.out _ (Below.refl _ _)) (by simp) (by unfold maxLen; omega) (by omega) (Nat.le_refl _) ?_)
          intro v2 w2 hown2 hg2
          simp only [Nat.zero_add, List.nil_append] at hown2
          have hs2 := keepG1 ⟨c0, f0, Below.refl _ _⟩ hbm hg2
          have S2 := Lib.hid hs2
          have O2 := Lib.hid hown2
          obtain ⟨k2, kf2, kb2⟩ := hs2
          have hsz2 := kb2.size
          clear hown2 hg2 c0 f0 kb2
          have hm3 : 0 + 1 ≤ maxLen := by unfold maxLen; omega
          have hm4 : 0 + 1 + (0 - 0) ≤ maxLen := by unfold maxLen; omega
          go_wp2_with fail
          have S3 := Lib.hid (show (w2.alloc (.cells #[.string key, .int .i64 x] 46)).drew.cell? ⟨bm, 0, none⟩ = some (.slice none 0 0) ∧ (w2.alloc (.cells #[.string key, .int .i64 x] 46)).drew.frozen? ⟨bm, 0, none⟩ = false ∧ Below w1.heap.size w1 (w2.alloc (.cells #[.string key, .int .i64 x] 46)).drew from keepG4 S2.out hbm)
          have q3 : (w2.alloc (.cells #[.string key, .int .i64 x] 46)).cell? ⟨bm, 0, none⟩ = some (.slice none 0 0) := (keepG3 S2.out hbm).1
          have qf3 : (w2.alloc (.cells #[.string key, .int .i64 x] 46)).frozen? ⟨bm, 0, none⟩ = false := (keepG3 S2.out hbm).2.1
          have hsz3 : w1.heap.size ≤ (w2.alloc (.cells #[.string key, .int .i64 x] 46)).drew.heap.size := S3.out.2.2.size
          go_region_law
            (first
              | ((with_reducible apply step_app (hgd := rfl) (t := 37) (base := w1.heap.size) (e := 46) (i := i0) (z := .agg #[.string ByteArray.empty, .int .i64 0]) (size := 2) (bytes := 24) (v := v2) (n := 0) (xs := []) (m := 1) (news := [.string key, .int .i64 x]) (ht := Try.underlying37) (hi := I1.out) (hz := I2.out) (hsize := I3.out) (hby := I4.out) (hzs := rfl)); (case ho => exact rfl); (case hs => exact rfl); (case hx => exact rfl); (case hsz => decide); (case hown => exact (O2.out.alloc _).drew); (case hsrc => exact src_lit #[.string key, .int .i64 x] (0, 0) (heap_alloc_new w2 _) rfl); (case h1 => exact one2' key x); (case h63 => exact hm3); (case hbytes => omega); (case hbase => exact hsz3); (intro v3 w3 hown3 hgrow3); (have hs3 := keepG2 S3.out hbm ((O2.out.alloc _).drew) hgrow3); (obtain ⟨k3, kf3, kb3⟩ := id hs3))
              | ((with_reducible apply step_app (hgd := rfl) (t := 37) (base := w1.heap.size) (e := 46) (i := i0) (z := .agg #[.string ByteArray.empty, .int .i64 0]) (size := 2) (bytes := 24) (v := v3) (n := 0 + 1) (xs := [] ++ [.string key, .int .i64 x]) (m := 0 - 0) (news := []) (ht := Try.underlying37) (hi := I1.out) (hz := I2.out) (hsize := I3.out) (hby := I4.out) (hzs := rfl)); (case ho => exact rfl); (case hs => exact rfl); (case hx => exact rfl); (case hsz => decide); (case hown => exact hown3); (case hsrc => exact ST2.out _ hs3.2.2); (case h1 => first | exact itemCells_one _ | simp); (case h63 => exact hm4); (case hbytes => omega); (case hbase => exact hs3.2.2.size); (intro v4 w4 hown4 hgrow4); (have hs4 := keepG2 hs3 hbm hown3 hgrow4); (obtain ⟨k4, kf4, kb4⟩ := id hs4); (obtain ⟨a4, cap4, rfl⟩ := ownsRow_slice hown4)))
          all_goals
            go_wp2_with fail
            all_goals go_end0
            all_goals exact ⟨rfl, put_fin0 HH.out F1.out N1.out (by omega) EMP.out kb4 hown4⟩
        · obtain ⟨g, off, rfl, _, _⟩ := P.out.plain ad rfl
          have k0 : (0 : Int) ≤ (k : Int) := by omega
          have hkcap : (k : Int) ≤ cap := by omega
          have hkn' : (k : Int) ≤ k := by omega
          have ST1 := Lib.hid (fun (W : World) (hW : Below w1.heap.size w1 W) => (src_take P.out hW k (by have := HN.out; omega) : Src W 2 (.slice (some ⟨g, off, none⟩) k cap) k (itemCells ((remL L key).take k))))
          have ST2 := Lib.hid (fun (W : World) (hW : Below w1.heap.size w1 W) => (by have := src_drop P.out hW k (by have := HN.out; omega) HN.out; rwa [Nat.sub_self] at this : Src W 2 (.slice (if cap = k then some ⟨g, off, none⟩ else some ⟨g, off + k * 2, none⟩) 0 (cap - k)) 0 (itemCells ((remL L key).drop k))))
          go_wp2_with (at_builtin; refine Stop.out ?_)
          refine Stop.of (wpList_app rfl _ _ 37 rfl w1.heap.size 46 i0 (.agg #[.string ByteArray.empty, .int .i64 0]) 2 24 Try.underlying37 I1.out I2.out I3.out I4.out rfl (by decide) _ 0 [] rfl (own_nil _ _ _ _) _ k (itemCells ((remL L key).take k)) rfl (ST1.out _ (Below.refl _ _)) (itemCells_one _) (by unfold maxLen; omega) (by omega) (Nat.le_refl _) ?_)
          intro v2 w2 hown2 hg2
          simp only [Nat.zero_add, List.nil_append] at hown2
          have hs2 := keepG1 ⟨c0, f0, Below.refl _ _⟩ hbm hg2
          have S2 := Lib.hid hs2
          have O2 := Lib.hid hown2
          obtain ⟨k2, kf2, kb2⟩ := hs2
          have hsz2 := kb2.size
          clear hown2 hg2 c0 f0 kb2
          have hm3 : k + 1 ≤ maxLen := by unfold maxLen; omega
          have hm4 : k + 1 + (0) ≤ maxLen := by unfold maxLen; omega
          go_wp2_with fail
          have S3 := Lib.hid (show (w2.alloc (.cells #[.string key, .int .i64 x] 46)).drew.cell? ⟨bm, 0, none⟩ = some (.slice (some ⟨g, off, none⟩) k cap) ∧ (w2.alloc (.cells #[.string key, .int .i64 x] 46)).drew.frozen? ⟨bm, 0, none⟩ = false ∧ Below w1.heap.size w1 (w2.alloc (.cells #[.string key, .int .i64 x] 46)).drew from keepG4 S2.out hbm)
          have q3 : (w2.alloc (.cells #[.string key, .int .i64 x] 46)).cell? ⟨bm, 0, none⟩ = some (.slice (some ⟨g, off, none⟩) k cap) := (keepG3 S2.out hbm).1
          have qf3 : (w2.alloc (.cells #[.string key, .int .i64 x] 46)).frozen? ⟨bm, 0, none⟩ = false := (keepG3 S2.out hbm).2.1
          have hsz3 : w1.heap.size ≤ (w2.alloc (.cells #[.string key, .int .i64 x] 46)).drew.heap.size := S3.out.2.2.size
          go_region_law
            (first
              | ((with_reducible apply step_app (hgd := rfl) (t := 37) (base := w1.heap.size) (e := 46) (i := i0) (z := .agg #[.string ByteArray.empty, .int .i64 0]) (size := 2) (bytes := 24) (v := v2) (n := k) (xs := itemCells ((remL L key).take k)) (m := 1) (news := [.string key, .int .i64 x]) (ht := Try.underlying37) (hi := I1.out) (hz := I2.out) (hsize := I3.out) (hby := I4.out) (hzs := rfl)); (case ho => exact rfl); (case hs => exact rfl); (case hx => exact rfl); (case hsz => decide); (case hown => exact (O2.out.alloc _).drew); (case hsrc => exact src_lit #[.string key, .int .i64 x] (0, 0) (heap_alloc_new w2 _) rfl); (case h1 => exact one2' key x); (case h63 => exact hm3); (case hbytes => omega); (case hbase => exact hsz3); (intro v3 w3 hown3 hgrow3); (have hs3 := keepG2 S3.out hbm ((O2.out.alloc _).drew) hgrow3); (obtain ⟨k3, kf3, kb3⟩ := id hs3))
              | ((with_reducible apply step_app (hgd := rfl) (t := 37) (base := w1.heap.size) (e := 46) (i := i0) (z := .agg #[.string ByteArray.empty, .int .i64 0]) (size := 2) (bytes := 24) (v := v3) (n := k + 1) (xs := itemCells ((remL L key).take k) ++ [.string key, .int .i64 x]) (m := 0) (news := itemCells ((remL L key).drop k)) (ht := Try.underlying37) (hi := I1.out) (hz := I2.out) (hsize := I3.out) (hby := I4.out) (hzs := rfl)); (case ho => exact rfl); (case hs => exact rfl); (case hx => exact rfl); (case hsz => decide); (case hown => exact hown3); (case hsrc => exact ST2.out _ hs3.2.2); (case h1 => first | exact itemCells_one _ | simp); (case h63 => exact hm4); (case hbytes => omega); (case hbase => exact hs3.2.2.size); (intro v4 w4 hown4 hgrow4); (have hs4 := keepG2 hs3 hbm hown3 hgrow4); (obtain ⟨k4, kf4, kb4⟩ := id hs4); (obtain ⟨a4, cap4, rfl⟩ := ownsRow_slice hown4)))
          all_goals
            go_wp2_with fail
            all_goals go_end0
            all_goals exact ⟨rfl, put_fin1 HH.out F1.out N1.out (by omega) HN.out hk hlt.out STOP.out kb4 hown4⟩
end Go.Proofs.Ytmbjkkoennadkaa
