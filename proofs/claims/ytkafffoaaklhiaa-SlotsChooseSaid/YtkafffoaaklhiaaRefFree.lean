/-
  The contracts of the reference's Free and of Ints.
-/
import Derived.Test.YtkafffoaaklhiaaFree2
import Derived.Test.YtkafffoaaklhiaaRefOv
import Derived.Deep.LoopGhost
namespace Go.Proofs.Ytkafffoaaklhiaa
open Go.RowKit
def refL (t : Lay) (f : Nat → Reg) (len : Nat) : Nat → List Int
  | 0 => []
  | k + 1 => if (sectorsL t (k : Int)).length = 0 then refL t f len k else if anyHit t (k : Int) f len = true then refL t f len k else refL t f len k ++ [(k : Int)]
theorem refL_len (t : Lay) (f : Nat → Reg) (len k : Nat) : (refL t f len k).length ≤ k := by
  induction k with
  | zero => simp [refL]
  | succ k ih => unfold refL; split <;> (try split) <;> (try rw [List.length_append, List.length_singleton]) <;> omega
theorem sect_len (t : Lay) (i : Int) : (sectorsL t i).length = 0 ↔ ¬ (formB t = true ∧ 0 ≤ i ∧ i < t.rg) := by
  rcases sect_cases t i with ⟨h, h2⟩ | h
  · rw [h]
    refine ⟨fun _ hc => ?_, fun _ => rfl⟩
    unfold firstD at h2
    rw [if_pos hc] at h2
    obtain ⟨_, _, r1, _, _, _⟩ := formB_rng hc.1
    have := Int.mul_nonneg hc.2.1 (show 0 ≤ t.rs by omega)
    omega
  · refine ⟨fun h0 => by omega, fun hc => ?_⟩
    have : firstD t i = -1 := by unfold firstD; rw [if_neg hc]
    omega
theorem refL_free (t : Lay) (f : Nat → Reg) (len : Nat) : refL t f len 16 = freeD t f len := by
  cases h : formB t with
  | false =>
    have key : ∀ k, refL t f len k = [] := by
      intro k
      induction k with
      | zero => rfl
      | succ k ih => unfold refL; rw [if_pos ((sect_len t k).2 (by rw [h]; simp)), ih]
    unfold freeD; rw [key, h]; rfl
  | true =>
    obtain ⟨_, _, _, _, g1, g2⟩ := formB_rng h
    obtain ⟨g, hg⟩ := Int.eq_ofNat_of_zero_le (show 0 ≤ t.rg by omega)
    have k1 : ∀ k, k ≤ g → refL t f len k = freeL t f len k := by
      intro k
      induction k with
      | zero => intro _; rfl
      | succ k ih =>
        intro hk
        unfold refL freeL
        rw [if_neg (fun h0 => (sect_len t k).1 h0 ⟨h, by omega, by omega⟩), ih (by omega)]
    have k2 : ∀ d, refL t f len (g + d) = freeL t f len g := by
      intro d
      induction d with
      | zero => exact k1 g (Nat.le_refl _)
      | succ d ih =>
        show refL t f len ((g + d) + 1) = _
        unfold refL
        rw [if_pos ((sect_len t ((g + d : Nat) : Int)).2 (by rintro ⟨_, _, hc⟩; omega)), ih]
    unfold freeD
    rw [if_pos h, show t.rg.toNat = g from by omega]
    have := k2 (16 - g)
    rwa [show g + (16 - g) = 16 from by omega] at this
set_option maxHeartbeats 4000000 in
theorem reffree18 (id ver rs rg : Int) (a : Option Addr) (len cap : Nat) (f : Nat → Reg) (w : World) (hl : len ≤ 9223372036854775807) (hr : RegsAt w a len f) :
    Calls Try.prog 25 #[.agg #[.int .i64 id, .int .i64 ver, .int .i64 rs, .int .i64 rg], .slice a len cap] w (RetInts w (refL ⟨id, ver, rs, rg⟩ f len 16)) := by
  have HR := Lib.hid hr
  obtain ⟨i0, hi, hz0, hz1, hz2⟩ := info_parts intinfo
  have I1 := Lib.hid hi; have I2 := Lib.hid hz0; have I3 := Lib.hid hz1; have I4 := Lib.hid hz2
  clear hr hi hz0 hz1 hz2
  go_enter Try.func25, Try.ntmps25
  go_wp2_with fail
  obtain ⟨w0, hw0, hb0⟩ : ∃ w0, w0 = w.alloc (.cells #[.int .i64 id, .int .i64 ver, .int .i64 rs, .int .i64 rg] 23) ∧ Below (w.heap.size + 1) (w.alloc (.cells #[.int .i64 id, .int .i64 ver, .int .i64 rs, .int .i64 rg] 23)) w0 := ⟨_, rfl, Below.refl _ _⟩
  rw [← hw0]
  have L0 := Lib.hid (show Below w.heap.size w w0 from hw0 ▸ (Below.refl _ _).alloc (Nat.le_refl _) _)
  have hsz : w0.heap.size = w.heap.size + 1 := by rw [hw0]; simp
  have T := Lib.hid (show w0.cell? ⟨w.heap.size, 0, none⟩ = some (.int .i64 id) ∧ w0.cell? ⟨w.heap.size, 1, none⟩ = some (.int .i64 ver) ∧ w0.cell? ⟨w.heap.size, 2, none⟩ = some (.int .i64 rs) ∧ w0.cell? ⟨w.heap.size, 3, none⟩ = some (.int .i64 rg) from by rw [hw0]; simp [go_sem])
  have HZ := Lib.hid hsz
  have hsz' : w.heap.size + 1 ≤ w0.heap.size := by omega
  clear hw0 hb0 hsz
  go_loopw [5, 6, 7, 9, 19, 20, 21] (fun v j _ _ _ _ _ wr => ∃ k : Nat, k ≤ 16 ∧ j = .int .i64 k ∧ (∃ n, wr.ownsRow (w.heap.size + 1) 3 1 v n ((refL ⟨id, ver, rs, rg⟩ f len k).map (Value.int .i64))) ∧ Below (w.heap.size + 1) w0 wr) (fun _ j _ _ _ _ _ _ => 16 - (intOf j).toNat)
  case atStart => exact ⟨0, Nat.zero_le _, rfl, ⟨0, World.ownsRow_nil _ _ _ _⟩, Below.refl _ _⟩
  case round =>
    obtain ⟨k, hk, rfl, ⟨n, hown⟩, hbr⟩ := hrel
    have hz := hbr.size
    have O := Lib.hid hown
    have B := Lib.hid hbr
    clear hown hbr
    by_cases hlt : k < 16
    · have t0 : wr.cell? ⟨w.heap.size, 0, none⟩ = some (.int .i64 id) := by rw [B.out.cell (by simp)]; exact T.out.1
      have t1 : wr.cell? ⟨w.heap.size, 1, none⟩ = some (.int .i64 ver) := by rw [B.out.cell (by simp)]; exact T.out.2.1
      have t2 : wr.cell? ⟨w.heap.size, 2, none⟩ = some (.int .i64 rs) := by rw [B.out.cell (by simp)]; exact T.out.2.2.1
      have t3 : wr.cell? ⟨w.heap.size, 3, none⟩ = some (.int .i64 rg) := by rw [B.out.cell (by simp)]; exact T.out.2.2.2
      go_wp2_with fail
      with_reducible refine (sectors9 _ _ _ _ _ _).mono ?_
      rintro e w1 ⟨v, rfl, hown, hb1⟩
      obtain ⟨a1, c1, rfl, _, _, _⟩ := ownsRow_elems hown
      clear hown
      have B1 := Lib.hid (B.out.trans (hb1.mono (by omega)))
      have O1 := Lib.hid (own_below O.out hb1)
      have hz1 := hb1.size
      have s0 : w1.cell? ⟨w.heap.size, 0, none⟩ = some (.int .i64 id) := by rw [hb1.cell (by simp; omega)]; exact t0
      have s1 : w1.cell? ⟨w.heap.size, 1, none⟩ = some (.int .i64 ver) := by rw [hb1.cell (by simp; omega)]; exact t1
      have s2 : w1.cell? ⟨w.heap.size, 2, none⟩ = some (.int .i64 rs) := by rw [hb1.cell (by simp; omega)]; exact t2
      have s3 : w1.cell? ⟨w.heap.size, 3, none⟩ = some (.int .i64 rg) := by rw [hb1.cell (by simp; omega)]; exact t3
      have S := Lib.hid (⟨s0, s1, s2, s3⟩ : _ ∧ _ ∧ _ ∧ _)
      have hstep : refL ⟨id, ver, rs, rg⟩ f len (k + 1) = if (sectorsL ⟨id, ver, rs, rg⟩ (k : Int)).length = 0 then refL ⟨id, ver, rs, rg⟩ f len k else if anyHit ⟨id, ver, rs, rg⟩ (k : Int) f len = true then refL ⟨id, ver, rs, rg⟩ f len k else refL ⟨id, ver, rs, rg⟩ f len k ++ [(k : Int)] := rfl
      have hln := refL_len ⟨id, ver, rs, rg⟩ f len k
      have hnn : (refL ⟨id, ver, rs, rg⟩ f len k).length = n := by have := O.out.1; simpa using this
      obtain ⟨l1, hl1⟩ : ∃ l1, refL ⟨id, ver, rs, rg⟩ f len (k + 1) = l1 := ⟨_, rfl⟩
      rw [hl1] at hstep
      have HL1 := Lib.hid hl1
      clear hl1
      generalize refL ⟨id, ver, rs, rg⟩ f len k = l0 at *
      have hm2 := sect_cases ⟨id, ver, rs, rg⟩ (k : Int)
      have hm3 : (sectorsL ⟨id, ver, rs, rg⟩ (k : Int)).length ≤ 2048 := by rcases hm2 with ⟨h, _⟩ | h <;> first | (rw [h]; simp) | exact h.2.1
      clear hm2
      generalize (sectorsL ⟨id, ver, rs, rg⟩ (k : Int)).length = m at *
      have hnk : n ≤ k := by omega
      have HS := Lib.hid hstep
      clear hstep hln hnn hb1 O B t0 t1 t2 t3 s0 s1 s2 s3
      by_cases hm0 : m = 0
      · have e1 : l1 = l0 := by have := HS.out; rwa [if_pos hm0] at this
        have HS1 := Lib.hid e1
        subst hm0
        clear e1 HS
        go_wp2_with fail
        go_roundw
        case rel => exact ⟨k + 1, by omega, by go_num, ⟨n, by rw [HL1.out, HS1.out]; exact O1.out⟩, B1.out⟩
        case measure => simp [intOf]; omega
      · have e1 : l1 = if anyHit ⟨id, ver, rs, rg⟩ (k : Int) f len = true then l0 else l0 ++ [(k : Int)] := by have := HS.out; rwa [if_neg hm0] at this
        have HS1 := Lib.hid e1
        have hm1 : ((m : Int) == 0) = false := by rw [beq_eq_false_iff_ne]; omega
        have L1 := Lib.hid (L0.out.trans (B1.out.mono (by omega)))
        clear e1 HS hm0
        go_wp2_with fail
        go_loopw [7, 9, 21] (fun h _ j wi => ∃ q : Nat, q ≤ len ∧ j = .int .i64 q ∧ h = .bool (anyHit ⟨id, ver, rs, rg⟩ (k : Int) f q) ∧ Below w1.heap.size w1 wi) (fun _ _ j _ => len - (intOf j).toNat)
        case atStart => exact ⟨0, Nat.zero_le _, rfl, rfl, Below.refl _ _⟩
        case round =>
          obtain ⟨q, hq, rfl, rfl, hbi⟩ := hrel
          have BI := Lib.hid hbi
          have hzi := hbi.size
          clear hbi
          by_cases hql : q < len
          · have LI := Lib.hid (L1.out.trans (BI.out.mono (by omega)))
            obtain ⟨b, off, rfl, hlt2, g0, g1, g2, g3, g4, g5, g6, g7, g8, g9⟩ := (HR.out.below LI.out (Nat.le_refl _)).at q hql
            have u0 : wr.cell? ⟨w.heap.size, 0, none⟩ = some (.int .i64 id) := by rw [BI.out.cell (by simp; omega)]; exact S.out.1
            have u1 : wr.cell? ⟨w.heap.size, 1, none⟩ = some (.int .i64 ver) := by rw [BI.out.cell (by simp; omega)]; exact S.out.2.1
            have u2 : wr.cell? ⟨w.heap.size, 2, none⟩ = some (.int .i64 rs) := by rw [BI.out.cell (by simp; omega)]; exact S.out.2.2.1
            have u3 : wr.cell? ⟨w.heap.size, 3, none⟩ = some (.int .i64 rg) := by rw [BI.out.cell (by simp; omega)]; exact S.out.2.2.2
            have hq0 : w.heap.size < wr.heap.size := by omega
            have hany : anyHit ⟨id, ver, rs, rg⟩ (k : Int) f (q + 1) = (anyHit ⟨id, ver, rs, rg⟩ (k : Int) f q || overlapB ⟨id, ver, rs, rg⟩ (k : Int) (f q).l (f q).slot) := rfl
            have HA := Lib.hid hany
            clear hany
            obtain ⟨X, hX⟩ : ∃ X, anyHit ⟨id, ver, rs, rg⟩ (k : Int) f q = X := ⟨_, rfl⟩
            have HX := Lib.hid hX
            rw [hX]
            clear hX
            cases X with
            | true =>
              go_wp2_with fail
              go_roundw
              case rel => exact ⟨q + 1, by omega, by go_num, by rw [HA.out, HX.out]; rfl, BI.out.alloc (by omega) _⟩
              case measure => simp [intOf]; omega
            | false =>
              go_wp2_with fail
              with_reducible refine (refov11 _ _ _ _ _ _ _ _ _ _ _).mono ?_
              rintro e w4 ⟨rfl, hb4⟩
              have B4 := Lib.hid ((BI.out.alloc (by omega) _).trans (hb4.mono (by simp; omega)))
              clear hb4
              go_wp2_with fail
              go_roundw
              case rel => exact ⟨q + 1, by omega, by go_num, by rw [HA.out, HX.out]; rfl, B4.out⟩
              case measure => simp [intOf]; omega
          · obtain rfl : q = len := by omega
            have HO := Lib.hid (own_below O1.out BI.out)
            have B3 := Lib.hid (B1.out.trans (BI.out.mono (by omega)))
            obtain ⟨X, hX⟩ : ∃ X, anyHit ⟨id, ver, rs, rg⟩ (k : Int) f q = X := ⟨_, rfl⟩
            have HX := Lib.hid hX
            rw [hX]
            clear hX
            cases X with
            | true =>
              have e1 : l1 = l0 := by have := HS1.out; rwa [if_pos HX.out] at this
              have HS2 := Lib.hid e1
              clear e1
              go_wp2_with fail
              go_roundw
              case rel => exact ⟨k + 1, by omega, by go_num, ⟨n, by rw [HL1.out, HS2.out]; exact HO.out⟩, B3.out⟩
              case measure => simp [intOf]; omega
            | false =>
              have e1 : l1 = l0 ++ [(k : Int)] := by have := HS1.out; rwa [if_neg (by rw [HX.out]; simp)] at this
              have HS2 := Lib.hid e1
              clear e1
              go_wp2_with (at_builtin; refine Stop.out ?_)
              refine Stop.of (wpList_app rfl _ _ 30 rfl (w.heap.size + 1) 3 i0 (.int .i64 0) 1 8 Try.underlying30 I1.out I2.out I3.out I4.out rfl (by decide) _ n _ rfl (HO.out.alloc _) (.slice (some ⟨wr.heap.size, 0, none⟩) 1 1) 1 [.int .i64 (k : Int)] rfl (src_lit #[.int .i64 (k : Int)] (0, 0) (heap_alloc_new wr _) rfl) (ints_one .i64 [(k : Int)]) (by unfold maxLen; omega) (by omega) (by simp; omega) ?_)
              intro v5 w5 hown5 hg5
              rw [show l0.map (Value.int .i64) ++ [Value.int .i64 (k : Int)] = l1.map (Value.int .i64) from by rw [HS2.out]; simp] at hown5
              have B5 := Lib.hid ((B3.out.alloc (by omega) _).grown hg5 (by simp; omega) (fun j hj => (HO.out.lt j hj).1))
              have O5 := Lib.hid hown5
              clear hown5 hg5
              go_wp2_with fail
              go_roundw
              case rel => exact ⟨k + 1, by omega, by go_num, ⟨n + 1, by rw [HL1.out]; exact O5.out⟩, B5.out⟩
              case measure => simp [intOf]; omega
    · obtain rfl : k = 16 := by omega
      go_wp2_with fail
      go_ret
      refine ⟨_, rfl, ?_, L0.out.trans (B.out.mono (by omega))⟩
      have := Joins.ownsRow_le O.out (Nat.le_succ w.heap.size)
      have hn : n = (refL ⟨id, ver, rs, rg⟩ f len 16).length := by have := O.out.1; simp at this; omega
      rw [← hn]; exact this
end Go.Proofs.Ytkafffoaaklhiaa
