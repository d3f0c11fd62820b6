/-
  Plain laws of the binary heap: order, permutation, the least at the top.
-/
import Derived.Test.YtmbjkkoennadkaaPop
namespace Go.Proofs.Ytmbjkkoennadkaa
/-! the order of strings and of items -/
theorem bl_irrefl : ∀ x : List UInt8, Op.bytesLess x x = false
  | [] => rfl
  | a :: x => by simp [Op.bytesLess, bl_irrefl x]
theorem bl_trans : ∀ x y z : List UInt8, Op.bytesLess x y = true → Op.bytesLess y z = true → Op.bytesLess x z = true
  | _, [], _, h, _ => by simp [Op.bytesLess] at h
  | _, _ :: _, [], _, h => by simp [Op.bytesLess] at h
  | [], _ :: _, _ :: _, _, _ => rfl
  | a :: x, b :: y, c :: z, h, k => by
    simp only [Op.bytesLess, Bool.or_eq_true, decide_eq_true_eq, Bool.and_eq_true, beq_iff_eq] at h k ⊢
    rcases h with h | ⟨h, h'⟩ <;> rcases k with k | ⟨k, k'⟩
    · exact .inl (UInt8.lt_trans h k)
    · exact .inl (k ▸ h)
    · exact .inl (h ▸ k)
    · exact .inr ⟨h.trans k, bl_trans x y z h' k'⟩
theorem bl_total : ∀ x y : List UInt8, Op.bytesLess x y = false → Op.bytesLess y x = false → x = y
  | [], [], _, _ => rfl
  | [], _ :: _, h, _ => by simp [Op.bytesLess] at h
  | _ :: _, [], _, h => by simp [Op.bytesLess] at h
  | a :: x, b :: y, h, k => by
    simp only [Op.bytesLess, Bool.or_eq_false_iff, decide_eq_false_iff_not, Bool.and_eq_false_iff, beq_eq_false_iff_ne, ne_eq] at h k
    have hab : a = b := by
      have h1 : ¬ a.toNat < b.toNat := fun e => h.1 (UInt8.lt_iff_toNat_lt.2 e)
      have h2 : ¬ b.toNat < a.toNat := fun e => k.1 (UInt8.lt_iff_toNat_lt.2 e)
      exact UInt8.toNat_inj.1 (by omega)
    subst hab
    rw [bl_total x y (h.2.resolve_left (by simp)) (k.2.resolve_left (by simp))]
theorem toList_inj {a b : ByteArray} (h : a.toList = b.toList) : a = b := by
  rw [ByteArray.toList_eq, ByteArray.toList_eq] at h
  exact WideShapes.bytes_inj h
theorem ltI_iff (a b : Item) : ltI a b = true ↔ a.at' < b.at' ∨ a.at' = b.at' ∧ ltS a.key b.key = true := by
  unfold ltI orD cmpI cmpS
  rw [decide_eq_true_eq]
  by_cases h1 : a.at' < b.at'
  · simp [h1]
  · by_cases h2 : b.at' < a.at'
    · simp [h1, h2]; omega
    · have e : a.at' = b.at' := by omega
      simp [e]
      by_cases h3 : ltS a.key b.key = true
      · simp [h3]
      · simp [h3]
        split <;> simp
theorem ltI_irrefl (a : Item) : ltI a a = false := by
  rw [← Bool.not_eq_true, ltI_iff]
  unfold ltS
  rw [bl_irrefl]
  simp
theorem ltI_trans {a b c : Item} (h : ltI a b = true) (k : ltI b c = true) : ltI a c = true := by
  rw [ltI_iff] at h k ⊢
  rcases h with h | ⟨h, h'⟩ <;> rcases k with k | ⟨k, k'⟩
  · exact .inl (by omega)
  · exact .inl (by omega)
  · exact .inl (by omega)
  · exact .inr ⟨by omega, bl_trans _ _ _ h' k'⟩
theorem ltI_total {a b : Item} (h : ltI a b = false) (k : ltI b a = false) : a = b := by
  rw [← Bool.not_eq_true, ltI_iff] at h k
  have e : a.at' = b.at' := by omega
  have e2 : a.key = b.key := by
    refine toList_inj (bl_total _ _ ?_ ?_)
    · cases hh : Op.bytesLess a.key.toList b.key.toList
      · rfl
      · exact absurd (.inr ⟨e, hh⟩) h
    · cases hh : Op.bytesLess b.key.toList a.key.toList
      · rfl
      · exact absurd (.inr ⟨e.symm, hh⟩) k
  cases a; cases b; simp at e e2; rw [e, e2]
/-- not less, as an order -/
def leI (a b : Item) : Prop := ltI b a = false
theorem leI_refl (a : Item) : leI a a := ltI_irrefl a
theorem leI_of_lt {a b : Item} (h : ltI a b = true) : leI a b := by
  unfold leI
  cases k : ltI b a
  · rfl
  · have := ltI_trans h k
    rw [ltI_irrefl] at this
    cases this
theorem leI_trans {a b c : Item} (h : leI a b) (k : leI b c) : leI a c := by
  unfold leI at *
  cases e : ltI c a
  · rfl
  · cases f : ltI a b
    · rw [ltI_total f h] at e
      rw [e] at k; cases k
    · have := ltI_trans e f
      rw [this] at k; cases k
theorem leI_total (a b : Item) : leI a b ∨ leI b a := by
  unfold leI
  cases h : ltI b a
  · exact .inl rfl
  · exact .inr (leI_of_lt h)
theorem leI_antisymm {a b : Item} (h : leI a b) (k : leI b a) : a = b := ltI_total k h
/-! swaps -/
theorem swapL_get (l : List Item) (i k j : Nat) (hi : i < l.length) (hk : k < l.length) : (swapL l i k)[j]? = if j = k then l[i]? else if j = i then l[k]? else l[j]? := by
  unfold swapL
  rw [List.getElem?_eq_getElem hi, List.getElem?_eq_getElem hk]
  simp only
  rw [List.getElem?_set, List.getElem?_set]
  by_cases h1 : k = j
  · subst h1; simp [hk]
  · by_cases h2 : i = j
    · subst h2; simp [h1, hi, Ne.symm h1]
    · simp [h1, h2, Ne.symm h1, Ne.symm h2]
theorem swapL_perm (l : List Item) (i k : Nat) : (swapL l i k).Perm l := by
  unfold swapL
  split
  · rename_i x y hx hy
    obtain ⟨hi, rfl⟩ := List.getElem?_eq_some_iff.1 hx
    obtain ⟨hk, rfl⟩ := List.getElem?_eq_some_iff.1 hy
    exact List.set_set_perm hi hk
  · exact List.Perm.refl _
theorem siftUp_perm (l : List Item) (i : Nat) : (siftUp l i).Perm l := by
  induction i using Nat.strongRecOn generalizing l with
  | _ i ih =>
    rw [siftUp]
    split
    · exact (ih _ (by omega) _).trans (swapL_perm _ _ _)
    · exact List.Perm.refl _
theorem pushL_perm (l : List Item) (x : Item) : (pushL l x).Perm (x :: l) := (siftUp_perm _ _).trans (List.perm_append_singleton _ _)
theorem siftDown_perm (l : List Item) (n i : Nat) : (siftDown l n i).Perm l := by
  induction h : n - i using Nat.strongRecOn generalizing l i with
  | _ q ih =>
    rw [siftDown]
    split
    · exact (ih _ (by omega) _ _ rfl).trans (swapL_perm _ _ _)
    · exact List.Perm.refl _
/-! the order of the heap -/
def leO (a b : Option Item) : Prop := ∀ x y, a = some x → b = some y → leI x y
theorem leO_none (a : Option Item) : leO a none := fun _ _ _ h => by cases h
theorem leO_trans {a c : Option Item} {b : Item} (h : leO a (some b)) (k : leO (some b) c) : leO a c := fun x y hx hy => leI_trans (h x b hx rfl) (k b y rfl hy)
theorem leO_out {l : List Item} {j : Nat} (a : Option Item) (h : l.length ≤ j) : leO a l[j]? := by
  rw [List.getElem?_eq_none h]; exact leO_none _
def HeapO (l : List Item) : Prop := ∀ i, 0 < i → leO l[(i - 1) / 2]? l[i]?
theorem siftUp_heap (l : List Item) (i : Nat) (hA : ∀ j, 0 < j → j ≠ i → leO l[(j - 1) / 2]? l[j]?) (hB : ∀ j, 0 < j → (j - 1) / 2 = i → 0 < i → leO l[(i - 1) / 2]? l[j]?) : HeapO (siftUp l i) := by
  induction i using Nat.strongRecOn generalizing l with
  | _ i ih =>
    rw [siftUp]
    split
    · rename_i h
      obtain ⟨h0, hlt⟩ := h
      obtain ⟨u, hu⟩ : ∃ u, (i - 1) / 2 = u := ⟨_, rfl⟩
      rw [hu] at hlt ⊢
      obtain ⟨x, y, hx, hy, hxy⟩ : ∃ x y, l[i]? = some x ∧ l[u]? = some y ∧ ltI x y = true := by
        unfold ltAt at hlt
        split at hlt
        · rename_i x y hx hy; exact ⟨x, y, hx, hy, hlt⟩
        · cases hlt
      have hi := (List.getElem?_eq_some_iff.1 hx).1
      have hul := (List.getElem?_eq_some_iff.1 hy).1
      have g := fun j => swapL_get l i u j hi hul
      have gu : (swapL l i u)[u]? = some x := by rw [g, if_pos rfl, hx]
      have gi : (swapL l i u)[i]? = some y := by rw [g, if_neg (by omega), if_pos rfl, hy]
      have go : ∀ j, j ≠ u → j ≠ i → (swapL l i u)[j]? = l[j]? := fun j h1 h2 => by rw [g, if_neg h1, if_neg h2]
      have lxy : leO (some x) (some y) := fun a b ha hb => by cases ha; cases hb; exact leI_of_lt hxy
      refine ih u (by omega) _ ?_ ?_
      · intro j hj hju
        by_cases hji : j = i
        · subst hji; rw [hu, gu, gi]; exact lxy
        · rw [go j hju hji]
          by_cases hp1 : (j - 1) / 2 = i
          · rw [hp1, gi, ← hy, ← hu]
            exact hB j hj hp1 h0
          · by_cases hp2 : (j - 1) / 2 = u
            · rw [hp2, gu]
              have := hA j hj hji
              rw [hp2, hy] at this
              exact leO_trans lxy this
            · rw [go _ hp2 hp1]; exact hA j hj hji
      · intro j hj hp h0u
        have hz := hA u h0u (by omega)
        rw [hy] at hz
        rw [go ((u - 1) / 2) (by omega) (by omega)]
        by_cases hji : j = i
        · subst hji; rw [gi]; exact hz
        · rw [go j (by omega) hji]
          have := hA j hj hji
          rw [hp, hy] at this
          exact leO_trans hz this
    · rename_i h
      intro j hj
      by_cases hji : j = i
      · subst hji
        intro a b ha hb
        unfold leI
        cases hc : ltI b a
        · rfl
        · exact absurd ⟨hj, by unfold ltAt; rw [ha, hb]; exact hc⟩ h
      · exact hA j hj hji
theorem pushL_heap (l : List Item) (x : Item) (h : HeapO l) : HeapO (pushL l x) := by
  unfold pushL
  refine siftUp_heap _ _ (fun j hj hjl => ?_) (fun j hj hp h0 => ?_)
  · by_cases hlt : j < l.length
    · rw [List.getElem?_append_left hlt, List.getElem?_append_left (by omega)]
      exact h j hj
    · exact leO_out _ (by first | omega | (simp; omega))
  · exact leO_out _ (by first | omega | (simp; omega))
theorem leastFrom_min (l : List Item) (n i c m : Nat) (hn : n ≤ l.length) (hm : m < l.length) : leO l[leastFrom l n i c m]? l[m]? ∧ ∀ j, c ≤ j → j ≤ 2 * i + 2 → j < n → leO l[leastFrom l n i c m]? l[j]? := by
  induction h : 2 * i + 3 - c generalizing c m with
  | zero =>
    rw [leastFrom, if_neg (by omega)]
    exact ⟨fun a b ha hb => by rw [ha] at hb; cases hb; exact leI_refl _, fun j h1 h2 _ => by omega⟩
  | succ q ih =>
    rw [leastFrom]
    split
    · rename_i hc
      obtain ⟨y, hy⟩ : ∃ y, l[m]? = some y := ⟨_, List.getElem?_eq_getElem hm⟩
      obtain ⟨x, hx⟩ : ∃ x, l[c]? = some x := ⟨_, List.getElem?_eq_getElem (by omega)⟩
      have hl : ltAt l c m = ltI x y := by unfold ltAt; rw [hx, hy]
      rw [hl]
      by_cases hxy : ltI x y = true
      · rw [if_pos hxy]
        obtain ⟨h1, h2⟩ := ih (c + 1) c (by omega) (by omega)
        rw [hx] at h1
        refine ⟨?_, fun j hj1 hj2 hj3 => ?_⟩
        · rw [hy]; exact leO_trans h1 (fun a b ha hb => by cases ha; cases hb; exact leI_of_lt hxy)
        · by_cases hjc : j = c
          · subst hjc; rw [hx]; exact h1
          · exact h2 j (by omega) hj2 hj3
      · rw [if_neg hxy]
        simp only [Bool.not_eq_true] at hxy
        obtain ⟨h1, h2⟩ := ih (c + 1) m hm (by omega)
        refine ⟨h1, fun j hj1 hj2 hj3 => ?_⟩
        by_cases hjc : j = c
        · subst hjc; rw [hx]; rw [hy] at h1
          exact leO_trans h1 (fun a b ha hb => by cases ha; cases hb; exact hxy)
        · exact h2 j (by omega) hj2 hj3
    · exact ⟨fun a b ha hb => by rw [ha] at hb; cases hb; exact leI_refl _, fun j h1 h2 h3 => by omega⟩
theorem leastFrom_le (l : List Item) (n i c m : Nat) (hc : c ≤ 2 * i + 3) (hm : m ≤ 2 * i + 2) : leastFrom l n i c m ≤ 2 * i + 2 := by
  induction h : 2 * i + 3 - c generalizing c m with
  | zero => rw [leastFrom, if_neg (by omega)]; exact hm
  | succ q ih =>
    rw [leastFrom]
    split
    · refine ih (c + 1) _ (by omega) ?_ (by omega)
      split <;> omega
    · exact hm
theorem siftDown_heap (l : List Item) (n i : Nat) (hn : l.length = n) (hi : i < n ∨ n = 0) (hA : ∀ j, 0 < j → (j - 1) / 2 ≠ i → leO l[(j - 1) / 2]? l[j]?) (hB : ∀ j, 0 < j → (j - 1) / 2 = i → 0 < i → leO l[(i - 1) / 2]? l[j]?) : HeapO (siftDown l n i) := by
  induction h : n - i using Nat.strongRecOn generalizing l i with
  | _ q ih =>
    rw [siftDown]
    rcases hi with hi | h0
    · have hm := leastFrom_of l n i (2 * i + 1) i
      have hr : leastFrom l n i (2 * i + 1) i ≤ 2 * i + 2 := leastFrom_le l n i (2 * i + 1) i (by omega) (by omega)
      obtain ⟨h1, h2⟩ := leastFrom_min l n i (2 * i + 1) i (by omega) (by omega)
      obtain ⟨m, hmm⟩ : ∃ m, leastFrom l n i (2 * i + 1) i = m := ⟨_, rfl⟩
      rw [hmm] at hm h1 h2 hr ⊢
      split
      · rename_i hc
        have hpm : (m - 1) / 2 = i := by omega
        obtain ⟨x, hx⟩ : ∃ x, l[m]? = some x := ⟨_, List.getElem?_eq_getElem (by omega)⟩
        obtain ⟨y, hy⟩ : ∃ y, l[i]? = some y := ⟨_, List.getElem?_eq_getElem (by omega)⟩
        have g := fun j => swapL_get l i m j (by omega) (by omega)
        have gm : (swapL l i m)[m]? = some y := by rw [g, if_pos rfl, hy]
        have gi : (swapL l i m)[i]? = some x := by rw [g, if_neg (by omega), if_pos rfl, hx]
        have go : ∀ j, j ≠ m → j ≠ i → (swapL l i m)[j]? = l[j]? := fun j h1 h2 => by rw [g, if_neg h1, if_neg h2]
        rw [hx, hy] at h1
        refine ih (n - m) (by omega) _ _ (by rw [swapL_length]; exact hn) (.inl hc.2) ?_ ?_ rfl
        · intro j hj hp
          by_cases hjm : j = m
          · subst hjm; rw [hpm, gi, gm]; exact h1
          · by_cases hji : j = i
            · subst hji; rw [gi, go _ (by omega) (by omega), ← hx]
              exact hB m (by omega) hpm hj
            · rw [go j hjm hji]
              by_cases hpi : (j - 1) / 2 = i
              · rw [hpi, gi, ← hx]
                by_cases hjn : j < n
                · exact h2 j (by omega) (by omega) hjn
                · exact leO_out _ (by first | omega | (simp; omega))
              · rw [go _ hp hpi]; exact hA j hj hpi
        · intro j hj hp _
          rw [hpm, gi, go j (by omega) (by omega), ← hx, ← hp]
          exact hA j hj (by omega)
      · rename_i hc
        obtain rfl : m = i := by omega
        intro j hj
        by_cases hp : (j - 1) / 2 = m
        · rw [hp]
          by_cases hjn : j < n
          · exact h2 j (by omega) (by omega) hjn
          · exact leO_out _ (by first | omega | (simp; omega))
        · exact hA j hj hp
    · rw [if_neg (by omega)]
      intro j hj
      exact leO_out _ (by first | omega | (simp; omega))
theorem popTop_heap (l : List Item) (n : Nat) (hn : l.length = n + 1) (h : HeapO l) : HeapO (popTop l n) := by
  unfold popTop
  have hl : ((swapL l 0 n).take n).length = n := by rw [List.length_take, swapL_length]; omega
  have g : ∀ j, 0 < j → j < n → ((swapL l 0 n).take n)[j]? = l[j]? := fun j h1 h2 => by
    rw [List.getElem?_take, if_pos h2, swapL_get l 0 n j (by omega) (by omega), if_neg (by omega), if_neg (by omega)]
  refine siftDown_heap _ n 0 hl (by omega) (fun j hj hp => ?_) (fun _ _ _ h0 => by omega)
  by_cases hjn : j < n
  · rw [g j hj hjn, g _ (by omega) (by omega)]; exact h j hj
  · exact leO_out _ (by first | omega | (simp; omega))
theorem popTop_perm (l : List Item) (n : Nat) (hn : l.length = n + 1) (y : Item) (hy : l[0]? = some y) : l.Perm (y :: popTop l n) := by
  unfold popTop
  have hp := swapL_perm l 0 n
  have hl : (swapL l 0 n).length = n + 1 := by rw [swapL_length, hn]
  have hlast : (swapL l 0 n)[n]? = some y := by rw [swapL_last l n (by omega)]; exact hy
  have hsplit : swapL l 0 n = (swapL l 0 n).take n ++ [y] := by
    obtain ⟨hb, he⟩ := List.getElem?_eq_some_iff.1 hlast
    have := List.take_succ_eq_append_getElem hb
    rw [he, List.take_of_length_le (by omega)] at this
    exact this
  refine hp.symm.trans ?_
  rw [hsplit]
  refine (List.perm_append_singleton _ _).trans (List.Perm.cons _ ?_)
  rw [← hsplit]
  exact (siftDown_perm _ _ _).symm
theorem heap_least (l : List Item) (h : HeapO l) (y : Item) (hy : l[0]? = some y) : ∀ x ∈ l, leI y x := by
  have key : ∀ (j : Nat) (x : Item), l[j]? = some x → leI y x := by
    intro j
    induction j using Nat.strongRecOn with
    | _ j ih =>
      intro x hx
      by_cases h0 : j = 0
      · subst h0; rw [hy] at hx; cases hx; exact leI_refl _
      · have hj := (List.getElem?_eq_some_iff.1 hx).1
        obtain ⟨z, hz⟩ : ∃ z, l[(j - 1) / 2]? = some z := ⟨_, List.getElem?_eq_getElem (by omega)⟩
        exact leI_trans (ih _ (by omega) z hz) (h j (by omega) z x hz hx)
  intro x hx
  obtain ⟨j, hj⟩ := List.getElem?_of_mem hx
  exact key j x hj
end Go.Proofs.Ytmbjkkoennadkaa
