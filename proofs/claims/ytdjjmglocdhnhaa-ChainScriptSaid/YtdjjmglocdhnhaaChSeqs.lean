/-
  Seqs: the regions that have items, ascending.
-/
import Derived.Test.YtdjjmglocdhnhaaChMem
import Derived.Test.YtdjjmglocdhnhaaLayC
import Derived.Test.YtdjjmglocdhnhaaFlat
import Derived.Shelf.SlIterI.Nil
import Derived.Shelf.SortM.Plain
import Derived.Shelf.SortM.SortNone
namespace Go.Proofs.Ytdjjmglocdhnhaa
open Go.RowKit Go.Maps Go.Shelf Go.Sort
set_option linter.unusedVariables false
theorem keys23 (mb : Option Nat) (w : World) : Calls Try.prog 23 #[.map mb] w fun e w' =>
    e = .returned (.func (.func 29) #[] #[.pointer (some ⟨w.heap.size, 0, none⟩)]) ∧ w' = w.alloc (.cells #[.map mb] 49) :=
  (callsIn_wide (n := 5)).1 (AnyZI.keys_in keysLays Fence.wide 5 trivial rfl mb w)
theorem sortsC (m : Nat) : AnyZI.SortsIn Try.prog sortedRen Fence.wide m :=
  ⟨fun blk off cap ss W hH hblk hsz => callsIn_wide.2 (AnyM.slices_Sort_int sortLays blk off cap ss W hH hblk hsz),
   fun p cap W => callsIn_wide.2 (AnyM.slices_Sort_int_none sortLays p cap W)⟩
set_option maxHeartbeats 1000000 in
theorem sorted22 (b nn B : Nat) (D0 : DataW Nat) (R : Value → Option (DataW Nat × List MemPlace)) (w : World) (hcell : w.cell? ⟨B, 0, none⟩ = some (.map (some b))) (hB : B < w.heap.size) (hown : w.ownsMap Try.prog 3 R b nn D0) (hmax : Maps.size D0 ≤ maxLen) (hbytes : Maps.size D0 * 8 ≤ 140737488355328) :
    Calls Try.prog 22 #[.func (.func 29) #[] #[.pointer (some ⟨B, 0, none⟩)]] w fun e w' => ∃ (v : Value) (ss : List Int), e = .returned v ∧ ss.Perm (intKeys D0) ∧
      w'.ownsRow w.heap.size 3 1 v ss.length ((ss.mergeSort (fun x y => decide (x ≤ y))).map encZ) ∧ (v = .slice none 0 0 ↔ ss = []) ∧ Below w.heap.size w w' := by
  have hseq : SeqGives Fence.wide 2 Try.prog 29 #[.pointer (some ⟨B, 0, none⟩)] encZ (fun ss => ss.Perm (intKeys D0)) (Maps.size D0) w :=
    AnyZI.keys_gives (ρ := keysRen) { keysLays with } Fence.wide _ trivial rfl (by omega) B b nn D0 _ hB hcell hown
  exact (callsIn_wide (n := 5)).1 (AnyZI.sorted_in sortedLays Fence.wide 5 trivial trivial trivial trivial rfl (by omega) (sortsC _) (enters_of Try.func28 (by kernel_rfl) rfl) 29 #[.pointer (some ⟨B, 0, none⟩)] trivial (enters_of Try.func29 (by kernel_rfl) rfl) _ _ hmax hbytes _ hseq)
/-- what Seqs gives -/
def SeqsE (w : World) (L : List It) (e : Ending) (w' : World) : Prop :=
  ∃ v, e = .returned v ∧ w'.ownsRow w.heap.size 3 1 v (seqI L).length ((seqI L).map (Value.int .i64)) ∧ Below w.heap.size w w'
theorem seqs_of {w : World} {b n : Nat} {D : DataW Nat} {L : List It} (h : OMo w b n D) (hh : ∀ s, Maps.has D (olit s) = decide (HasS L s)) (hA : AscI L) {ss : List Int} (hp : ss.Perm (intKeys D)) : ss.mergeSort (fun x y => decide (x ≤ y)) = seqI L := by
  have hk : (seqI L).Perm (intKeys D) := by
    obtain ⟨es, hD, hpw, _⟩ := World.ownsMap.entries h intK
    obtain ⟨es', hD', hko⟩ := World.ownsMap.keysOf h
    obtain rfl : es = es' := by rw [hD] at hD'; simpa using hD'
    subst hD
    refine perm_intKeys hpw (fun p hp => by obtain ⟨v, hv⟩ := hko p hp; obtain ⟨x, _, hx, _⟩ := Maps.keyOf_i64 Try.underlying3 hv; exact ⟨x, hx⟩) ((seqI_asc hA).imp (fun h e => by omega)) (fun x => ?_)
    have := hh x
    unfold olit at this
    rw [this, mem_seqI, decide_eq_true_eq]
    rfl
  have e := mergeSort_of_perm_i (hp.trans hk.symm)
  refine e.trans (List.mergeSort_of_pairwise ((seqI_asc hA).imp (fun h => ?_)))
  simp only [leI, decide_eq_true_eq]
  omega
theorem size_seqs {w : World} {b n : Nat} {D : DataW Nat} {L : List It} (h : OMo w b n D) : Maps.size D ≤ n := World.ownsMap.size_le h
set_option maxHeartbeats 1000000 in
theorem seqs17 (cb N : Nat) (R : Nat → Prop) (L : List It) (w : World) (hN : N ≤ 100000) (hA : AscI L) (h : Ch w cb N L R) :
    Calls Try.prog 17 #[.pointer (some ⟨cb, 0, none⟩)] w (SeqsE w L) := by
  obtain ⟨ob, no, D, bl, p, rfl⟩ := h
  have c0 := blk_cell (i := 0) p.blk
  simp only [List.getElem?_toArray, List.getElem?_cons_zero] at c0
  have hbm := blk_lt p.blk
  have hsz := size_seqs (L := L) p.own
  have hno := p.le
  have SO := Lib.hid (sorted22 ob no w.heap.size D mapR (w.alloc (.cells #[.map (some ob)] 49)) (by rw [blk_cell (heap_alloc_new _ _)]; rfl) (by simp) (p.own.alloc _) (by unfold maxLen; omega) (by omega))
  have OW := Lib.hid p.own
  have HH := Lib.hid p.has
  have HA := Lib.hid hA
  clear p hA hsz
  go_enter Try.func17, Try.ntmps17
  go_wp2_with fail
  with_reducible refine (keys23 _ _).mono ?_
  rintro e w1 ⟨rfl, rfl⟩
  go_wp2_with fail
  with_reducible refine SO.out.mono ?_
  rintro e w2 ⟨v, ss, rfl, hp, ho, -, hb⟩
  have e1 := seqs_of OW.out HH.out HA.out hp
  have hl : ss.length = (seqI L).length := by rw [← e1, (List.mergeSort_perm _ _).length_eq]
  rw [e1, hl] at ho
  have O2 := Lib.hid ho
  have B2 := Lib.hid (bel1 hb)
  clear hp ho hb e1 hl
  go_wp2_with fail
  go_ret
  exact ⟨v, rfl, own_base O2.out (by simp), B2.out⟩
end Go.Proofs.Ytdjjmglocdhnhaa
