/-
  Toward slots.Foreign: its function literal, slices.IndexFunc at regions with it, the builtin clear at regions.
-/
import Derived.Test.YtkafffoaaklhiaaRefMore
import Derived.Test.YtkafffoaaklhiaaSlotsEndW
import Derived.Laws.IdiomCopy
import Derived.Deep.Upon
namespace Go.Proofs.Ytkafffoaaklhiaa
open Go.RowKit
set_option linter.unusedVariables false
set_option maxHeartbeats 1000000 in
theorem forlit39 (r : Reg) (tid : Int) (tb : Nat) (w : World) (ht : w.cell? ⟨tb, 0, none⟩ = some (.int .i64 tid)) :
    Calls Try.prog 39 #[.agg #[.int .i64 r.ver, .int .i64 r.slot, .int .i64 r.lay, .int .i64 r.seq, .int .i64 r.tail, .int .i64 r.now, .int .i64 r.l.id, .int .i64 r.l.ver, .int .i64 r.l.rs, .int .i64 r.l.rg], .pointer (some ⟨tb, 0, none⟩)] w
      fun e w' => e = .returned (.bool (r.l.id == tid)) ∧ Below w.heap.size w w' := by
  have hlt := World.block_lt_of_cell? _ _ ht
  simp only at hlt
  go_enter Try.func39, Try.ntmps39
  go_wp2_with fail
  go_ret
  exact ⟨rfl, (Below.refl _ _).alloc (Nat.le_refl _) _⟩
/-- the place of the first region of the layout tid -/
def idxD (tid : Int) : List Reg → Nat → Int
  | [], _ => -1
  | r :: S, i => if r.l.id = tid then (i : Int) else idxD tid S (i + 1)
set_option maxHeartbeats 2000000 in
theorem forindex46 (a : Option Addr) (n cap : Nat) (S : List Reg) (tid : Int) (tb : Nat) (w : World) (hl : S.length = n) (hn : n ≤ 1000) (hv : Vals w a (regC S)) (ht : w.cell? ⟨tb, 0, none⟩ = some (.int .i64 tid)) :
    Calls Try.prog 46 #[.slice a n cap, .func (.func 39) #[] #[.pointer (some ⟨tb, 0, none⟩)]] w fun e w' => e = .returned (.int .i64 (idxD tid S 0)) ∧ Below w.heap.size w w' := by
  have HL := Lib.hid hl
  have HV := Lib.hid hv
  have HT := Lib.hid ht
  have hlt := World.block_lt_of_cell? _ _ ht
  simp only at hlt
  clear hv hl ht
  go_enter Try.func46, Try.ntmps46
  go_wp2_with fail
  go_loopg [5, 8] n (fun gk _ iv wr => ∃ i : Nat, iv = .int .i64 i ∧ i ≤ n ∧ gk = n - i ∧ Below w.heap.size w wr ∧ Hid (idxD tid S 0 = idxD tid (S.drop i) i))
  case atStart => exact ⟨0, rfl, Nat.zero_le _, rfl, Below.refl _ _, Lib.hid rfl⟩
  case round =>
    obtain ⟨i, rfl, hi, hgk, hb, hix⟩ := hrel
    have GK := Lib.hid hgk
    have B := Lib.hid hb
    clear hgk hb
    by_cases hin : i < n
    · obtain ⟨r, hr⟩ : ∃ r, S[i]? = some r := ⟨_, List.getElem?_eq_getElem (by rw [HL.out]; exact hin)⟩
      obtain ⟨b, off, rfl, hb1, hc⟩ := (HV.out.below B.out (Nat.le_refl _)).regs.at i (by rw [HL.out]; exact hin)
      simp only [hr, Option.getD_some] at hc
      obtain ⟨g0, g1, g2, g3, g4, g5, g6, g7, g8, g9⟩ := hc
      have hiI : (i : Int) < n := by omega
      have hdrop : S.drop i = r :: S.drop (i + 1) := by
        obtain ⟨h0, e⟩ := List.getElem?_eq_some_iff.1 hr
        rw [← e, List.getElem_cons_drop]
      have IX := Lib.hid (show idxD tid S 0 = if r.l.id = tid then (i : Int) else idxD tid (S.drop (i + 1)) (i + 1) from by rw [hix.out, hdrop]; rfl)
      have FL := Lib.hid (forlit39 r tid tb wr (by rw [B.out.cell (p := ⟨tb, 0, none⟩) hlt]; exact HT.out))
      clear hr hdrop
      go_wp2_with fail
      with_reducible refine FL.out.mono ?_
      rintro e w1 ⟨rfl, hb2⟩
      have B2 := Lib.hid (bel_trans B.out hb2)
      clear hb2 g0 g1 g2 g3 g4 g5 g6 g7 g8 g9 hb1
      by_cases hid : r.l.id = tid
      · have hbe : (r.l.id == tid) = true := by simp [hid]
        have E := Lib.hid (show idxD tid S 0 = (i : Int) from by rw [IX.out, if_pos hid])
        rw [hbe]
        clear hid
        go_wp2_with fail
        go_ret
        exact ⟨by rw [E.out]; rfl, B2.out⟩
      · have hbe : (r.l.id == tid) = false := by simp [hid]
        have E := Lib.hid (show idxD tid S 0 = idxD tid (S.drop (i + 1)) (i + 1) from by rw [IX.out, if_neg hid])
        rw [hbe]
        clear hid
        go_wp2_with fail
        go_roundg (n - (i + 1))
        case measure => have := GK.out; omega
        case rel => exact ⟨i + 1, by go_num, by omega, rfl, B2.out, E⟩
    · have E := Lib.hid (show idxD tid S 0 = -1 from by rw [hix.out, List.drop_of_length_le (by rw [HL.out]; omega)]; rfl)
      go_wp2_with fail
      go_ret
      exact ⟨by rw [E.out]; rfl, B.out⟩
/-- 'clear' at n > 0 regions: the row's own block alone is written, from the slice's begin on -/
theorem run_clear10 (w : World) (g k m c n cap ty : Nat) (C : List Reg) (hm : 0 < m) (hkm : k + m = n) (h : w.ownsRow 0 36 10 (.slice (some ⟨g, 0, none⟩) n cap) n (regC C)) (hC : C.length = n) :
    ∃ w', (Builtin.clear_ #[24] ty #[.slice (some ⟨g, k * 10, none⟩) m c]).run Try.prog w = .ok (.tuple #[]) w' ∧ Fr (fun j => j = g) w w' ∧ Vals w' (some ⟨g, 0, none⟩) (regC (C.take k)) := by
  obtain ⟨i, hi, hz, hs, hb⟩ := info_parts reginfo
  have hzv : ∀ w, (zeroValue 36).run Try.prog w = .ok (.agg #[.int .i64 0, .int .i64 0, .int .i64 0, .int .i64 0, .int .i64 0, .int .i64 0, .int .i64 0, .int .i64 0, .int .i64 0, .int .i64 0]) w := fun w => by
    simp [zeroValue, typeInfo, hi, hz]
  obtain ⟨zs, hzs⟩ : ∃ zs : List Value, (Builtin.zeroCells (Value.agg #[.int .i64 0, .int .i64 0, .int .i64 0, .int .i64 0, .int .i64 0, .int .i64 0, .int .i64 0, .int .i64 0, .int .i64 0, .int .i64 0]).cells m).toList = zs := ⟨_, rfl⟩
  have hcs : (Value.agg #[.int .i64 0, .int .i64 0, .int .i64 0, .int .i64 0, .int .i64 0, .int .i64 0, .int .i64 0, .int .i64 0, .int .i64 0, .int .i64 0]).cells = #[.int .i64 0, .int .i64 0, .int .i64 0, .int .i64 0, .int .i64 0, .int .i64 0, .int .i64 0, .int .i64 0, .int .i64 0, .int .i64 0] := by rfl
  have hzl : zs.length = m * 10 := by rw [← hzs, hcs]; simp [Builtin.zeroCells]
  have hz1 : ∀ v ∈ zs, v.oneCell' = true := by
    intro v hv
    rw [← hzs, hcs] at hv
    simp only [Builtin.zeroCells, Array.toList_map, List.mem_map] at hv
    obtain ⟨j, _, rfl⟩ := hv
    have hj : j % 10 < 10 := Nat.mod_lt _ (by omega)
    have key : ∀ i, i < 10 → (#[Value.int .i64 0, .int .i64 0, .int .i64 0, .int .i64 0, .int .i64 0, .int .i64 0, .int .i64 0, .int .i64 0, .int .i64 0, .int .i64 0] : Array Value)[i]!.oneCell' = true := by decide
    exact key (j % 10) hj
  have hlen : (regC C).length = n * 10 := by rw [regC_len, hC]
  have hst := run_storeCells_cells (P := Try.prog) g (k * 10) zs 0 w (fun j hj => by
      have h1 := h.cellAt (k * 10 + 0 + j) (by omega)
      rw [h1, List.getElem?_eq_getElem (by omega)]; rfl) (fun j hj => h.frozenAt _) hz1
  simp only [Nat.add_zero] at hst
  have hfr : ∀ (vs : List Value) (o : Nat) (w : World), Fr (fun j => j = g) w (w.setCells g o vs) := by
    intro vs
    induction vs with
    | nil => intro o w; exact Fr.refl _ _
    | cons v vs ih =>
      intro o w
      exact (⟨rfl, rfl, rfl, by simp [World.setCell], fun k _ hne => Below.heap_setCell _ _ _ _ hne⟩ : Fr (fun j => j = g) w (w.setCell ⟨g, o, none⟩ v)).trans (ih (o + 1) _) (fun _ e => .inl e)
  refine ⟨w.setCells g (k * 10) zs, ?_, hfr _ _ _, fun j hj => ?_⟩
  · obtain ⟨m', rfl⟩ : ∃ m', m = m' + 1 := ⟨m - 1, by omega⟩
    simp [Builtin.clear_, run_underlying Try.underlying24, hzv, hzs, hst]
  · rw [regC_len, List.length_take] at hj
    refine ⟨g, 0, rfl, ?_, ?_⟩
    · exact Nat.lt_of_lt_of_le (h.lt g rfl).2 (hfr zs (k * 10) w).size
    · rw [World.cell?_setCells_out g zs (k * 10) w ⟨g, 0 + j, none⟩ (fun _ _ => by left; show 0 + j < _; omega), Nat.zero_add, h.cellAt j (by omega)]
      have e : regC C = regC (C.take k) ++ regC (C.drop k) := by rw [← regC_app, List.take_append_drop]
      rw [e, List.getElem?_append_left (by rw [regC_len, List.length_take]; omega)]
end Go.Proofs.Ytkafffoaaklhiaa
