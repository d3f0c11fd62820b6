/-
  The items of a region, sorted by slices.SortFunc.
-/
import Derived.Test.YtdjjmglocdhnhaaLayC
import Derived.Test.YtdjjmglocdhnhaaFlat
import Derived.Test.YtdjjmglocdhnhaaCmp
import Derived.Shelf.SlSortCmp.NoneTotal
import Derived.Sort.OwnSorted
import Derived.Lib.SlKeysI
namespace Go.Proofs.Ytdjjmglocdhnhaa
open Go.RowKit Go.Shelf Go.Sort
set_option linter.unusedVariables false
theorem flatK_list {α : Type} [Inhabited α] (enc : α → List Value) (k : Nat) (h0 : 0 < k) (hk : ∀ x, (enc x).length = k) (ss : List α) : (flatK enc k ss.toArray).toList = ss.flatMap enc := by
  apply List.ext_getElem?
  intro t
  by_cases ht : t < ss.length * k
  · have hd : t / k < ss.length := by rw [Nat.div_lt_iff_lt_mul h0]; exact ht
    obtain ⟨x, hx⟩ : ∃ x, ss[t / k]? = some x := ⟨_, List.getElem?_eq_getElem hd⟩
    have hm := Nat.mod_lt t h0
    have h1 := flat_at enc k hk ss (t / k) x hx (t % k) hm
    rw [Nat.div_add_mod' t k] at h1
    rw [h1, Array.getElem?_toList]
    have hs : t < (flatK enc k ss.toArray).size := by simpa using ht
    have e : ss[t / k]! = x := by rw [List.getElem!_eq_getElem?_getD, hx]; rfl
    rw [Array.getElem?_eq_getElem hs, ← getElem!_pos (flatK enc k ss.toArray) t hs, get_flatK enc k ss.toArray t (by simpa using ht)]
    have e2 : (ss.toArray)[t / k]! = x := by simpa using e
    rw [e2, getElem!_pos (enc x) (t % k) (by rw [hk]; exact hm), List.getElem?_eq_getElem (by rw [hk]; exact hm)]
  · rw [List.getElem?_eq_none (by simp; omega), List.getElem?_eq_none (by rw [flat_len enc k hk]; omega)]
theorem heap_sortedK {w : World} {g n : Nat} {os : Array Obj} {cur : Array Value} {e : TypeId} {fr : Nat × Nat} (F : Array Value) (hb : w.heap[g]? = some (.cells cur e fr)) :
    (grow (putRow id (Sort.ahead w n) g 0 F) os).heap[g]? = some (.cells (putCells id 0 F cur) e fr) := by
  have hg : g < w.heap.size := (Array.getElem?_eq_some_iff.1 hb).1
  rw [heap_grow_old _ _ (by simpa using hg)]
  simp [putRow, mapBlock, Sort.ahead, Array.getElem?_modify, hb, onCells]
theorem grownBy_sortedK {w : World} {g n : Nat} {os : Array Obj} (F : Array Value) : w.grownBy (grow (putRow id (Sort.ahead w n) g 0 F) os) (some g) := by
  refine ⟨rfl, rfl, rfl, by simp, fun k hk hne => ?_⟩
  rw [heap_grow_old _ _ (by simpa using hk)]
  have : g ≠ k := fun e => hne (by rw [e])
  simp [putRow, mapBlock, Sort.ahead, Array.getElem?_modify, this]
theorem take_putCellsK (cur F : Array Value) (h : F.size ≤ cur.size) : (putCells id 0 F cur).toList.take F.size = F.toList := by
  apply List.ext_getElem?
  intro j
  by_cases hj : j < F.size
  · rw [List.getElem?_take_of_lt hj, Array.getElem?_toList, Array.getElem?_toList]
    simp [putCells, hj, show j < cur.size by omega]
  · rw [List.getElem?_take_eq_none (by omega), List.getElem?_eq_none (by simpa using hj)]
/-- an item's two cells, its key by its offset -/
def encF (f : Int → ByteArray) (o : Int) : List Value := [.int .i64 o, .string (f o)]
theorem encF_len (f : Int → ByteArray) (o : Int) : (encF f o).length = 2 := rfl
theorem encF_one (f : Int → ByteArray) (o : Int) : ∀ v ∈ encF f o, v.oneCell' = true := by
  intro v hv
  simp only [encF, List.mem_cons, List.not_mem_nil, or_false] at hv
  rcases hv with rfl | rfl <;> rfl
theorem ltOf_cmpI (x y : Int) : ltOf cmpI x y = decide (x < y) := by
  unfold ltOf cmpI
  by_cases h1 : x < y
  · simp [h1]
  · by_cases h2 : y < x <;> simp [h1, h2]
theorem swoI : SWO (ltOf cmpI) where
  irrefl x := by rw [ltOf_cmpI]; simp
  trans x y z h1 h2 := by rw [ltOf_cmpI] at *; simp at *; omega
  ntrans x y z h1 h2 := by rw [ltOf_cmpI] at *; simp at *; omega
set_option maxHeartbeats 1000000 in
theorem closure20 (f : Int → ByteArray) (x y : Int) (W : World) : Calls Try.prog 20 #[.agg #[.int .i64 x, .string (f x)], .agg #[.int .i64 y, .string (f y)]] W fun e w' => e = .returned (.int .i64 (cmpI x y)) ∧ ∃ q os', w' = grow (W.drewN q) os' := by
  have hcon := fun W' => cmpint x y W'
  generalize cmpI x y = r at hcon ⊢
  go_enter Try.func20, Try.ntmps20
  go_wp2_with (go_at_call 21; refine (hcon _).mono ?_; rintro e w' ⟨rfl, rfl⟩)
  go_ret
  exact ⟨rfl, 0, _, by rw [alloc_eq_grow, alloc_eq_grow, grow_grow]; rfl⟩
theorem cmpLays20 (f : Int → ByteArray) (blk off size : Nat) (w : World) : CmpLays Try.prog 20 #[] (encF f) 2 cmpI blk off size w :=
  fun _ _ _ _ x y => closure20 f x y _
theorem sortf19 (f : Int → ByteArray) (base g cap m : Nat) (ss : List Int) (hm : ss.length = m) (w : World) (h : w.ownsRow base 32 2 (.slice (some ⟨g, 0, none⟩) m cap) m (ss.flatMap (encF f))) (hsz : m < 4611686018427387904) :
    Calls Try.prog 19 #[.slice (some ⟨g, 0, none⟩) m cap, .func (.func 20) #[] #[]] w fun e w' => e = .returned (.tuple #[]) ∧
      w'.ownsRow base 32 2 (.slice (some ⟨g, 0, none⟩) m cap) m ((ss.mergeSort leI).flatMap (encF f)) ∧ w.grownBy w' (some g) := by
  have eg : ∀ args w, (callFunc 20 args).run Try.prog w = .ok (.enter 20 args) w := enters_of Try.func20 (by kernel_rfl) rfl
  have hH : HoldsK (encF f) 2 w g 0 ss.toArray := by
    intro j hj
    have hl := flatK_list (encF f) 2 (by omega) (encF_len f) ss
    have hjl : j < m * 2 := by rw [← hm]; simpa using hj
    refine ⟨?_, World.ownsRow.frozenAt h _⟩
    rw [Nat.zero_add, World.ownsRow.cellAt h j hjl, ← hl, Array.getElem?_toList, Array.getElem?_eq_getElem hj, getElem!_pos _ j hj]
    rfl
  have hblk := (h.lt g rfl).2
  have hcon := AnyQ.slices_SortFunc_total sortfLays 2 Try.isAgg32 Try.sizeOf32 (encF f) (encF_len f) (encF_one f) cmpI swoI 20 #[] g 0 cap ss.toArray w eg (cmpLays20 f g 0 ss.toArray.size w) hH hblk (by simp [hm]; omega) (fun x y h1 h2 => by
    rw [ltOf_cmpI] at h1 h2
    simp at h1 h2
    omega)
  change Calls Try.prog 19 _ _ _ at hcon
  rw [show ss.toArray.size = m from by simpa using hm] at hcon
  refine hcon.mono ?_
  rintro e w' ⟨rfl, n, os, rfl⟩
  have hle : (fun x y => !(ltOf cmpI) y x) = leI := by
    funext x y
    rw [ltOf_cmpI]
    simp only [leI]
    by_cases h : x ≤ y
    · simp [h]
    · simp [h]; omega
  have hp := List.mergeSort_perm ss leI
  rw [show ss.toArray.toList.mergeSort (fun x y => !(ltOf cmpI) y x) = ss.mergeSort leI from by rw [hle]]
  have hfl := flatK_list (encF f) 2 (by omega) (encF_len f) (ss.mergeSort leI)
  have hsz2 : (flatK (encF f) 2 (ss.mergeSort leI).toArray).size = m * 2 := by simp [hp.length_eq, hm]
  refine ⟨rfl, ?_, grownBy_sortedK _⟩
  rcases h.2 with ⟨h0, _⟩ | ⟨g', cap', cur, hv, hg, hb, h1, h2, h3, h4⟩
  · cases h0
  · cases hv
    refine ⟨by rw [flat_len (encF f) 2 (encF_len f), hp.length_eq, hm], .inr ⟨g, cap, _, rfl, hg, heap_sortedK _ hb, h1, h2, by simp [putCells, h3], ?_⟩⟩
    rw [← hfl, ← hsz2]
    exact take_putCellsK _ _ (by rw [hsz2, h3]; exact Nat.mul_le_mul_right _ h1)
theorem sortf19_none (p : Option Addr) (cap : Nat) (fv : Value) (w : World) : Calls Try.prog 19 #[.slice p 0 cap, fv] w fun e w' => e = .returned (.tuple #[]) ∧ w' = w := by
  have h := AnyF.slices_SortFunc_none sortfLays p cap fv w
  exact h
theorem sorted_of {l ss : List Int} (hp : ss.Perm l) (hl : l.Pairwise (· < ·)) : ss.mergeSort leI = l := by
  rw [mergeSort_of_perm_i hp]
  refine List.mergeSort_of_pairwise (hl.imp (fun h => ?_))
  simp only [leI, decide_eq_true_eq]
  omega
end Go.Proofs.Ytdjjmglocdhnhaa
