/-
  The reference's Map.
-/
import Derived.Test.YtbfkhghegkiifaaRpFind
import Derived.Test.YtbfkhghegkiifaaRefTSet
namespace Go.Proofs.Ytbfkhghegkiifaa
open Go.RowKit
set_option linter.unusedVariables false
/-- the reference's table, newer than w -/
structure RObP (w wr : World) (bm : Nat) (L : List Pr) (R : Nat → Prop) : Prop where
  rt : RT wr bm L R
  new : ∀ j, R j → w.heap.size ≤ j
  bel : Below w.heap.size w wr
def ROb (w wr : World) (bm : Nat) (L : List Pr) : Prop := ∃ R, RObP w wr bm L R
theorem ROb.bel {w wr : World} {bm : Nat} {L : List Pr} (h : ROb w wr bm L) : Below w.heap.size w wr := by obtain ⟨_, d⟩ := h; exact d.bel
theorem ROb.below {w wr w' : World} {bm : Nat} {L : List Pr} (h : ROb w wr bm L) (hb : Below wr.heap.size wr w') : ROb w w' bm L := by
  obtain ⟨R, d⟩ := h
  exact ⟨R, d.rt.below hb, d.new, bel_trans d.bel hb⟩
theorem rob_new (w : World) : ROb w (w.alloc (.cells #[.slice none 0 0] 56)) w.heap.size [] := by
  have hx : (w.alloc (.cells #[.slice none 0 0] 56)).heap[w.heap.size]? = some (.cells #[.slice none 0 0] 56 (0, 0)) := by
    show (w.heap.push _)[w.heap.size]? = _
    simp
  refine ⟨_, ⟨.slice none 0 0, ⟨hx, by simpa [pairsC] using own_nil _ _ _ _, fun e => by cases e⟩, rfl⟩, fun j hj => ?_, (Below.refl _ _).alloc (Nat.le_refl _) _⟩
  rcases hj with rfl | e
  · exact Nat.le_refl _
  · cases e
theorem rob_set (bm : Nat) (L : List Pr) (key : ByteArray) (e : Ent) (w wr : World) (h : ROb w wr bm L) (hL : L.length ≤ 1000) (hA : Asc L) :
    Calls Try.prog 19 #[.pointer (some ⟨bm, 0, none⟩), .string key, entV e] wr fun e' w' => e' = .returned (.tuple #[]) ∧ ∃ L', ROb w w' bm L' ∧ Asc L' ∧ (∀ x, x ∈ L' ↔ x = ⟨key, e⟩ ∨ (x.key ≠ key ∧ x ∈ L)) ∧ L'.length ≤ L.length + 1 := by
  obtain ⟨R, d⟩ := h
  refine (rset17 bm R L key e wr hL hA d.rt).mono ?_
  rintro e' w' ⟨rfl, L', R', h1, h2, h3, h4, h5, h6⟩
  refine ⟨rfl, L', ⟨R', h1, fun j hj => ?_, Fr.below d.bel h5 d.bel.size d.new⟩, h2, h3, h4⟩
  rcases h6 j hj with e | e
  · exact d.new j e
  · exact Nat.le_trans d.bel.size e
theorem ROb.list {w wr : World} {bm : Nat} {L : List Pr} (h : ROb w wr bm L) : ∃ a cap, wr.heap[bm]? = some (.cells #[.slice a L.length cap] 56 (0, 0)) ∧ Vals wr a (pairsC L) := by
  obtain ⟨R, ⟨v, p, _⟩, _, _⟩ := h
  obtain ⟨a, cap, rfl, hv, _, _⟩ := p.len
  exact ⟨a, cap, p.blk, hv⟩
/-- what the reference's Map gives -/
def RMapE (w : World) (bs : List Bt) (now : Int) (e : Ending) (w' : World) : Prop :=
  ∃ a c q, e = .returned (.slice a q.length c) ∧ MapR (recs bs) now q ∧ q.length ≤ 1000 ∧ Vals w' a (pairsC q) ∧ Below w.heap.size w w'
set_option maxRecDepth 100000 in
set_option maxHeartbeats 8000000 in
theorem rrmap11 (a : Option Addr) (len cap : Nat) (bs : List Bt) (now : Int) (w : World) (hlen : bs.length = len) (h11 : len ≤ 11) (hb : BtsIn w a bs) :
    Calls Try.prog 11 #[.slice a len cap, .int .i64 now] w (RMapE w bs now) := by
  have HB := Lib.hid hb
  have HL := Lib.hid hlen
  have RN := Lib.hid (rob_new w)
  clear hb hlen
  go_enter Try.func11, Try.ntmps11
  go_wp2_with fail
  obtain ⟨bm, hbm⟩ : ∃ bm, w.heap.size = bm := ⟨_, rfl⟩
  have HBM := Lib.hid hbm
  rw [hbm] at RN ⊢
  clear hbm
  go_loopg [7, 9, 10, 11, 16] len (fun gk _ _ _ _ iv wr => ∃ (i : Nat) (L : List Pr), i ≤ len ∧ iv = .int .i64 i ∧ gk + i = len ∧ ROb w wr bm L ∧ Hid (RefR (recs bs) (recs (bs.take i)) now L) ∧ L.length ≤ 8 * i)
  case atStart => exact ⟨0, [], by omega, rfl, by omega, RN.out, Lib.hid (refR_start _ _), by simp⟩
  case round =>
    obtain ⟨i, L, hi, rfl, hgk, ro, RR, hll⟩ := hrel
    have RO := Lib.hid ro
    have GK := Lib.hid hgk
    clear hgk RN
    by_cases hlt : i < len
    · obtain ⟨x, hx⟩ : ∃ x, bs[i]? = some x := ⟨_, List.getElem?_eq_getElem (by have := HL.out; omega)⟩
      obtain ⟨b, off, rfl, hb, c0, c1, xin⟩ := (HB.out.below ro.bel).at i x hx
      have hii : (i : Int) < len := by omega
      have HX := Lib.hid hx
      have XIN := Lib.hid (HB.out.bts x (List.mem_of_getElem? hx))
      obtain ⟨n, hn⟩ : ∃ n, x.fs.length = n := ⟨_, rfl⟩
      have hn8 : n ≤ 8 := by rw [← hn]; exact xin.le
      obtain ⟨ax, hax⟩ : ∃ ax, x.a = ax := ⟨_, rfl⟩
      rw [hn, hax] at c1
      have HAX := Lib.hid hax
      have HN := Lib.hid hn
      have RO2 := Lib.hid (ro.below ((Below.refl _ _).alloc (Nat.le_refl _) (.cells #[.int .i64 x.seq, .slice ax n x.c] 46)))
      clear hx xin hn hax ro
      go_wp2_with fail
      go_loopg [9, 10, 11, 23] n (fun gk _ _ _ jv wr' => ∃ (j : Nat) (L' : List Pr), j ≤ n ∧ jv = .int .i64 j ∧ gk + j = n ∧ ROb w wr' bm L' ∧ Hid (RefR (recs bs) (recs (bs.take i) ++ (x.fs.take j).map (Fd.rc x.seq)) now L') ∧ L'.length ≤ 8 * i + j)
      case atStart => exact ⟨0, L, by omega, rfl, by omega, RO2.out, by simpa using RR, by omega⟩
      case round =>
        obtain ⟨j, L', hj, rfl, hgk2, ro', RR', hll'⟩ := hrel
        have RO' := Lib.hid ro'
        have GK2 := Lib.hid hgk2
        have XJ := XIN.out.below ro'.bel
        clear hgk2 RO2
        by_cases hlt2 : j < n
        · obtain ⟨f, hf⟩ : ∃ f, x.fs[j]? = some f := ⟨_, List.getElem?_eq_getElem (by have := HN.out; omega)⟩
          obtain ⟨b2, off2, hab, hb2, d0, d1, d2, d3, d4, d5, kin⟩ := XJ.at j f hf
          rw [HAX.out] at hab
          subst hab
          have hjj : (j : Int) < n := by omega
          have HF := Lib.hid hf
          obtain ⟨ks, hks⟩ : ∃ ks, f.key.size = ks := ⟨_, rfl⟩
          rw [hks] at d3
          have hks10 : ks ≤ 10 := by rw [← hks]; exact kin.le
          have HKS := Lib.hid hks
          have KV := Lib.hid (kin.vals.below ((Below.refl _ _).alloc (Nat.le_refl _) (.cells #[.int .i64 f.off, .int .i64 f.len, .int .i64 f.kind, .slice f.ka ks f.kc, .slice none 0 0, .int .i64 f.exp] 44)) (Nat.le_refl _))
          have CV : (convert 40 9 (.slice f.ka ks f.kc)).run Try.prog (wr.alloc (.cells #[.int .i64 f.off, .int .i64 f.len, .int .i64 f.kind, .slice f.ka ks f.kc, .slice none 0 0, .int .i64 f.exp] 44)) = .ok (.string f.key) (wr.alloc (.cells #[.int .i64 f.off, .int .i64 f.len, .int .i64 f.kind, .slice f.ka ks f.kc, .slice none 0 0, .int .i64 f.exp] 44)) := by
            rw [← hks]
            rw [← hks] at KV
            exact vals_conv KV.out
          have FI := Lib.hid (rfind18 (some ⟨b, off, none⟩) len cap bs f.key now (wr.alloc (.cells #[.int .i64 f.off, .int .i64 f.len, .int .i64 f.kind, .slice f.ka ks f.kc, .slice none 0 0, .int .i64 f.exp] 44)) HL.out h11 ((HB.out.below ro'.bel).below ((Below.refl _ _).alloc (Nat.le_refl _) _)))
          have FB := Lib.hid (show (wr.alloc (.cells #[.int .i64 f.off, .int .i64 f.len, .int .i64 f.kind, .slice f.ka ks f.kc, .slice none 0 0, .int .i64 f.exp] 44)).heap[wr.heap.size]? = some (.cells #[.int .i64 f.off, .int .i64 f.len, .int .i64 f.kind, .slice f.ka ks f.kc, .slice none 0 0, .int .i64 f.exp] 44 (0, 0)) from by
            show (wr.heap.push _)[wr.heap.size]? = _
            simp)
          clear hf kin hks XJ ro'
          go_wp2_with fail
          with_reducible refine FI.out.mono ?_
          rintro e w3 ⟨xe, bb, rfl, hb3, ht, hff⟩
          clear FI
          have HT := Lib.hid ht
          have HFF := Lib.hid hff
          obtain ⟨bf, hbf⟩ : ∃ bf, wr.heap.size = bf := ⟨_, rfl⟩
          have F3 := (hb3.block _ (by simp)).trans FB.out
          rw [hbf] at F3
          have f2 := blk_cell (i := 2) F3; have f3 := blk_cell (i := 3) F3
          have hbl := blk_lt F3
          simp only [List.getElem?_toArray, List.getElem?_cons_zero, List.getElem?_cons_succ] at f2 f3
          have RO3 := Lib.hid (RO'.out.below (bel1 hb3))
          have KV3 := Lib.hid (KV.out.below hb3 (Nat.le_refl _))
          rw [hbf]
          clear F3 hb3 ht hff hbf FB CV KV d0 d1 d2 d3 d4 d5
          have RO4 := Lib.hid (RO3.out.below ((Below.refl _ _).alloc (Nat.le_refl _) (.cells #[.int .i64 xe.seq, .int .i64 xe.off, .int .i64 xe.len, .int .i64 xe.exp, .bool xe.hit] 36)))
          cases bb with
          | false =>
            have LK3 := Lib.hid (show RefR (recs bs) (recs (bs.take i) ++ (x.fs.take (j + 1)).map (Fd.rc x.seq)) now L' from by
              rw [rcs_take HF.out, ← List.append_assoc]
              exact refR_skip (r := f.rc x.seq) RR'.out (fun _ => HFF.out rfl))
            clear HT HFF
            go_wp2_with fail
            go_roundg (n - (j + 1))
            case measure => have := GK2.out; omega
            case rel => exact ⟨j + 1, L', by omega, by go_num, by omega, RO4.out, LK3, by omega⟩
          | true =>
            by_cases hk1 : f.kind = 1
            · have hkb : (f.kind == 1) = true := by rw [hk1]; rfl
              have CV3 : (convert 40 9 (.slice f.ka ks f.kc)).run Try.prog (w3.alloc (.cells #[.int .i64 xe.seq, .int .i64 xe.off, .int .i64 xe.len, .int .i64 xe.exp, .bool xe.hit] 36)) = .ok (.string f.key) (w3.alloc (.cells #[.int .i64 xe.seq, .int .i64 xe.off, .int .i64 xe.len, .int .i64 xe.exp, .bool xe.hit] 36)) := by
                have hks := HKS.out
                subst hks
                exact vals_conv (KV3.out.below ((Below.refl _ _).alloc (Nat.le_refl _) _) (Nat.le_refl _))
              have SET := Lib.hid (rob_set bm L' f.key xe w _ RO4.out (by omega) RR'.out.asc)
              have HK1 := Lib.hid hk1
              have HE := Lib.hid (HT.out rfl)
              clear hk1 HT HFF
              unfold entV at SET
              go_wp2_with fail
              with_reducible refine SET.out.mono ?_
              rintro e w4 ⟨rfl, L3, r3, a3, m3, l3⟩
              have RO5 := Lib.hid r3
              have LK3 := Lib.hid (show RefR (recs bs) (recs (bs.take i) ++ (x.fs.take (j + 1)).map (Fd.rc x.seq)) now L3 from by
                rw [rcs_take HF.out, ← List.append_assoc]
                exact refR_set (r := f.rc x.seq) RR'.out HK1.out HE.out.1 HE.out.2 a3 m3)
              clear r3 a3 m3 SET CV3
              go_wp2_with fail
              go_roundg (n - (j + 1))
              case measure => have := GK2.out; omega
              case rel => exact ⟨j + 1, L3, by omega, by go_num, by omega, RO5.out, LK3, by omega⟩
            · have hkb : (f.kind == 1) = false := by simp [hk1]
              have LK3 := Lib.hid (show RefR (recs bs) (recs (bs.take i) ++ (x.fs.take (j + 1)).map (Fd.rc x.seq)) now L' from by
                rw [rcs_take HF.out, ← List.append_assoc]
                exact refR_skip (r := f.rc x.seq) RR'.out (fun h => absurd h hk1))
              clear HT HFF hk1
              go_wp2_with fail
              go_roundg (n - (j + 1))
              case measure => have := GK2.out; omega
              case rel => exact ⟨j + 1, L', by omega, by go_num, by omega, RO4.out, LK3, by omega⟩
        · obtain rfl : n = j := by omega
          have LK3 := Lib.hid (show RefR (recs bs) (recs (bs.take (i + 1))) now L' from by
            have := RR'.out
            rw [List.take_of_length_le (l := x.fs) (by have := HN.out; omega)] at this
            rw [recs_take HX.out]; exact this)
          clear XJ ro'
          go_wp2_with fail
          go_roundg (len - (i + 1))
          case measure => have := GK.out; omega
          case rel => exact ⟨i + 1, L', by omega, by go_num, by omega, RO'.out, LK3, by omega⟩
    · obtain rfl : len = i := by omega
      have MR := Lib.hid (show MapR (recs bs) now L from by
        have := RR.out
        rw [List.take_of_length_le (by have := HL.out; omega)] at this
        exact refR_end this)
      obtain ⟨la, lc, hbk, hv⟩ := ro.list
      have hbl := blk_lt hbk
      have x0 := blk_cell (i := 0) hbk
      simp only [List.getElem?_toArray, List.getElem?_cons_zero] at x0
      have HV := Lib.hid hv
      clear hbk hv ro
      go_wp2_with fail
      go_ret
      exact ⟨la, lc, L, rfl, MR.out, by omega, HV.out, RO.out.bel⟩
end Go.Proofs.Ytbfkhghegkiifaa
