/-
  The contracts of newPlaces and New.
-/
import Derived.Test.YtbfkhghegkiifaaTabMove
import Derived.Laws.MakeOwn
import Derived.Handy
namespace Go.Proofs.Ytbfkhghegkiifaa
open Go.RowKit
set_option linter.unusedVariables false
theorem placeinfo : (Try.prog.info? 71).map (fun i => (i.zero, i.size, i.bytes)) = some (some (.agg #[.int .i64 0, .string ByteArray.empty, .int .i64 0, .int .i64 0, .int .i64 0, .int .i64 0, .bool false]), 7, 64) := by kernel_rfl
def emptyC : Array Value := #[.int .i64 0, .string ByteArray.empty, .int .i64 0, .int .i64 0, .int .i64 0, .int .i64 0, .bool false]
theorem placesC_empty (n : Nat) : placesC (List.replicate n pEmpty) = (madeCells emptyC (n * 7)).toList := by
  refine List.ext_getElem? fun j => ?_
  rcases Nat.lt_or_ge j (n * 7) with hj | hj
  · have hd : j = (j / 7) * 7 + j % 7 := by omega
    have hm : j % 7 < 7 := Nat.mod_lt _ (by omega)
    have hq : (List.replicate n pEmpty)[j / 7]? = some pEmpty := by rw [List.getElem?_replicate, if_pos (by omega)]
    have h1 : (placesC (List.replicate n pEmpty))[j]? = (plC pEmpty)[j % 7]? := by
      conv => lhs; rw [hd]
      exact placesC_at _ _ _ hq _ hm
    rw [h1]
    have hl : j < (madeCells emptyC (n * 7)).toList.length := by rw [Array.length_toList, size_madeCells]; exact hj
    rw [List.getElem?_eq_getElem hl]
    have hg : (madeCells emptyC (n * 7)).toList[j] = emptyC[j % 7]! := by
      rw [Array.getElem_toList]
      unfold madeCells
      simp [emptyC]
    rw [hg]
    have : j % 7 = 0 ∨ j % 7 = 1 ∨ j % 7 = 2 ∨ j % 7 = 3 ∨ j % 7 = 4 ∨ j % 7 = 5 ∨ j % 7 = 6 := by omega
    rcases this with e | e | e | e | e | e | e <;> rw [e] <;> rfl
  · rw [List.getElem?_eq_none (by rw [placesC_len, List.length_replicate]; exact hj), List.getElem?_eq_none (by rw [Array.length_toList, size_madeCells]; exact hj)]
theorem make_places (n : Nat) (hn : n ≤ 1073741824) (W : World) : ∃ W', (Instr.makeSlice 59 (.int .i64 (n : Int)) (.int .i64 (n : Int))).run Try.prog W = .ok (.slice (some ⟨W.heap.size, 0, none⟩) n n) W' ∧
    W'.ownsRow 0 71 7 (.slice (some ⟨W.heap.size, 0, none⟩) n n) n (placesC (List.replicate n pEmpty)) ∧ Below W.heap.size W W' := by
  obtain ⟨i, hi, hz, hs, hb⟩ := info_parts placeinfo
  have hr := run_make (P := Try.prog) W 59 71 i _ Try.underlying59 hi hz .i64 .i64 (n : Int) (n : Int) (by omega) (by omega) (by rw [hb]; omega) (by omega)
  rw [Int.toNat_natCast, hs] at hr
  refine ⟨_, hr, ⟨by rw [placesC_len, List.length_replicate], .inr ⟨W.heap.size, n, madeCells emptyC (n * 7), rfl, Nat.zero_le _, ?_, Nat.le_refl _, by unfold maxLen; omega, size_madeCells _ _, ?_⟩⟩, (Below.refl _ _).alloc (Nat.le_refl _) _⟩
  · show (W.heap.push _)[W.heap.size]? = _
    simp
    rfl
  · rw [placesC_empty, List.take_of_length_le (by rw [Array.length_toList, size_madeCells]; exact Nat.le_refl _)]
set_option maxRecDepth 100000 in
set_option maxHeartbeats 1000000 in
theorem newPlaces22 (b : Nat) (w : World) (h1 : 1 ≤ b) (hb : b ≤ 30) :
    Calls Try.prog 20 #[.int .i64 (b : Int)] w fun e w' => ∃ g, e = .returned (.agg #[.int .i64 (b : Int), .slice (some ⟨g, 0, none⟩) (2 ^ b) (2 ^ b)]) ∧ w'.ownsRow 0 71 7 (.slice (some ⟨g, 0, none⟩) (2 ^ b) (2 ^ b)) (2 ^ b) (placesC (List.replicate (2 ^ b) pEmpty)) ∧ Below w.heap.size w w' ∧ w.heap.size ≤ g := by
  have hle := pow_le30 hb
  obtain ⟨n, hn⟩ : ∃ n, 2 ^ b = n := ⟨_, rfl⟩
  have hw : wrap64 ((2 : Int) ^ b) = (n : Int) := by
    rw [← hn, IntWalk.wrap64_in _ (by have : ((2 : Int) ^ b) = ((2 ^ b : Nat) : Int) := by simp
                                      rw [this]; constructor <;> omega)]
    simp
  rw [hn] at hle ⊢
  clear hn
  have MK := make_places n hle (w.alloc (.cells #[.int .i64 0, .slice none 0 0] 61))
  rw [show (w.alloc (.cells #[.int .i64 0, .slice none 0 0] 61)).heap.size = w.heap.size + 1 by simp] at MK
  obtain ⟨W', hm, hown, hbel⟩ := MK
  have q0 : W'.heap[w.heap.size]? = some (.cells #[.int .i64 0, .slice none 0 0] 61 (0, 0)) := by
    rw [hbel.block w.heap.size (by omega)]
    show (w.heap.push _)[w.heap.size]? = _
    simp
  have c0 := blk_cell (i := 0) q0; have c1 := blk_cell (i := 1) q0
  have f0 := blk_free (i := 0) q0; have f1 := blk_free (i := 1) q0
  simp only [List.getElem?_toArray, List.getElem?_cons_zero, List.getElem?_cons_succ] at c0 c1
  have Q0 := Lib.hid q0
  have OWN := Lib.hid hown
  have BEL := Lib.hid hbel
  clear q0 hown hbel
  go_enter Try.func20, Try.ntmps20
  go_wp2_with fail
  have hq := blk_set (i := 1) (blk_set (i := 0) Q0.out (.int .i64 (b : Int))) (.slice (some ⟨w.heap.size + 1, 0, none⟩) n n)
  have r0 : ((W'.setCell ⟨w.heap.size, 0, none⟩ (.int .i64 (b : Int))).setCell ⟨w.heap.size, 1, none⟩ (.slice (some ⟨w.heap.size + 1, 0, none⟩) n n)).cell? ⟨w.heap.size, 0, none⟩ = some (.int .i64 (b : Int)) := by rw [blk_cell (i := 0) hq]; rfl
  have r1 : ((W'.setCell ⟨w.heap.size, 0, none⟩ (.int .i64 (b : Int))).setCell ⟨w.heap.size, 1, none⟩ (.slice (some ⟨w.heap.size + 1, 0, none⟩) n n)).cell? ⟨w.heap.size, 1, none⟩ = some (.slice (some ⟨w.heap.size + 1, 0, none⟩) n n) := by rw [blk_cell (i := 1) hq]; rfl
  refine bodyPost_ret (v := .agg #[.int .i64 (b : Int), .slice (some ⟨w.heap.size + 1, 0, none⟩) n n]) (by simp [results, Try.results20, go_sem, r0, r1]; try rfl) rfl ?_
  refine ⟨_, rfl, own_same OWN.out (fun g hg => ?_), ?_, by omega⟩
  · simp [Value.ownBlock] at hg
    subst hg
    rw [Below.heap_setCell _ _ _ _ (by show w.heap.size + 1 ≠ w.heap.size; omega), Below.heap_setCell _ _ _ _ (by show w.heap.size + 1 ≠ w.heap.size; omega)]
  · have h1 : Below w.heap.size w W' := ((Below.refl w.heap.size w).alloc (Nat.le_refl _) _).trans (BEL.out.mono (by omega))
    exact (h1.setCell (by simp) _).setCell (by simp) _
def tab0 : Tab := ⟨3, List.replicate 8 pEmpty, 0, [], 0, 0, 0, 0⟩
theorem none_new (n : Nat) (k : ByteArray) (e : Ent) : ¬ HasK (List.replicate n pEmpty) k e := by
  rintro ⟨i, p, hp, h1, _⟩
  rw [List.getElem?_replicate] at hp
  split at hp
  · cases hp; simp [pEmpty] at h1
  · cases hp
theorem inv_new (b : Nat) (h1 : 1 ≤ b) (hb : b ≤ 30) : Inv (homeN b) (List.replicate (2 ^ b) pEmpty) := by
  have hno : ∀ (i : Nat) (p : Pl), (List.replicate (2 ^ b) pEmpty)[i]? = some p → p.st ≠ 1 := fun i p hp h => none_new _ p.key p.en ⟨i, p, hp, h, rfl, rfl⟩
  exact ⟨fun k => by rw [List.length_replicate]; exact (homeN_lt k b h1 hb).1, fun i p hp h => absurd h (hno i p hp), fun i j p q hp _ h => absurd h (hno i p hp)⟩
theorem used_new (n : Nat) : usedN (List.replicate n pEmpty) = 0 := by
  unfold usedN
  rw [List.countP_eq_zero]
  intro p hp
  rw [(List.mem_replicate.1 hp).2]
  simp [pEmpty]
theorem none_nil (k : ByteArray) (e : Ent) : ¬ HasK [] k e := fun ⟨i, p, hp, _⟩ => by simp at hp
theorem tab0_ok : TI tab0 := by
  refine ⟨Nat.le_refl _, by decide, rfl, inv_new 3 (by omega) (by omega), fun p hp => ?_, used_new 8, .inl ⟨rfl, rfl⟩, rfl, fun i p hi => ?_, fun k e e' h => absurd h (none_new 8 k e), by decide, by decide, fun k e h => ?_⟩
  · rw [(List.mem_replicate.1 hp).2]; exact .inl rfl
  · exact absurd hi (Nat.not_lt_zero _)
  · rcases h with h | h
    · exact absurd h (none_new 8 k e)
    · exact absurd h (none_nil k e)
theorem new_end {w w1 : World} {g : Nat} (hown : w1.ownsRow 0 71 7 (.slice (some ⟨g, 0, none⟩) 8 8) 8 (placesC (List.replicate 8 pEmpty))) (hb : Below w.heap.size w w1) (hg : w.heap.size ≤ g) :
    ∃ tb vn T, Ending.returned (.pointer (some ⟨w1.heap.size, 0, none⟩)) = .returned (.pointer (some ⟨tb, 0, none⟩)) ∧ Tb (w1.alloc (.cells #[.int .i64 3, .slice (some ⟨g, 0, none⟩) 8 8, .int .i64 0, .slice none 0 0, .int .i64 0, .int .i64 0, .int .i64 0, .int .i64 0] 64)) tb vn (.slice none 0 0) T ∧
      TI T ∧ T.nb = 3 ∧ T.nowLen = 0 ∧ T.oldLen = 0 ∧ T.work = 0 ∧ (∀ k e, ¬ Has T k e) ∧ Fr (fun _ => False) w (w1.alloc (.cells #[.int .i64 3, .slice (some ⟨g, 0, none⟩) 8 8, .int .i64 0, .slice none 0 0, .int .i64 0, .int .i64 0, .int .i64 0, .int .i64 0] 64)) ∧
      ∀ k, tfoot tb vn (.slice none 0 0) k → w.heap.size ≤ k := by
  have hgl := (hown.lt g rfl).2
  have hs := hb.size
  refine ⟨w1.heap.size, .slice (some ⟨g, 0, none⟩) 8 8, tab0, rfl, ⟨?_, hown.alloc _, ⟨rfl, .inl ⟨rfl, rfl⟩⟩, fun j _ e => by simp [Value.ownBlock] at e, by simp [Value.ownBlock]; omega, by simp [Value.ownBlock]⟩, tab0_ok, rfl, rfl, rfl, rfl, fun k e h => ?_, (Fr.of_below hb).alloc _, ?_⟩
  · show (w1.heap.push _)[w1.heap.size]? = _
    simp
    rfl
  · rcases h with h | h
    · exact none_new 8 k e h
    · exact none_nil k e h
  · rintro k (rfl | h | h)
    · exact hs
    · simp [Value.ownBlock] at h; omega
    · simp [Value.ownBlock] at h
set_option maxHeartbeats 1000000 in
theorem new8 (w : World) : Calls Try.prog 13 #[] w fun e w' => ∃ tb vn T, e = .returned (.pointer (some ⟨tb, 0, none⟩)) ∧ Tb w' tb vn (.slice none 0 0) T ∧ TI T ∧ T.nb = 3 ∧ T.nowLen = 0 ∧ T.oldLen = 0 ∧ T.work = 0 ∧ (∀ k e, ¬ Has T k e) ∧ Fr (fun _ => False) w w' ∧ ∀ k, tfoot tb vn (.slice none 0 0) k → w.heap.size ≤ k := by
  have N3 := newPlaces22 3 w (by omega) (by omega)
  rw [show ((3 : Nat) : Int) = 3 from rfl, show (2 ^ 3 : Nat) = 8 from rfl] at N3
  have HN := Lib.hid N3
  clear N3
  go_enter Try.func13, Try.ntmps13
  go_wp2_with fail
  with_reducible refine HN.out.mono ?_
  rintro e w1 ⟨g, rfl, hown, hbel, hg⟩
  have OWN := Lib.hid hown
  have BEL := Lib.hid hbel
  clear hown hbel
  go_wp2_with fail
  go_ret
  exact new_end OWN.out BEL.out hg
end Go.Proofs.Ytbfkhghegkiifaa
