/-
  Plain laws of the chain: a list of items, ascending by region and offset. No program here.
-/
import Derived.Test.YtdjjmglocdhnhaaBase
namespace Go.Proofs.Ytdjjmglocdhnhaa
set_option linter.unusedVariables false
structure It where
  seq : Int
  off : Int
  key : ByteArray
def ltI (x y : It) : Bool := decide (x.seq < y.seq) || (decide (x.seq = y.seq) && decide (x.off < y.off))
theorem ltI_iff (x y : It) : ltI x y = true ↔ x.seq < y.seq ∨ (x.seq = y.seq ∧ x.off < y.off) := by unfold ltI; simp
theorem ltI_trans {x y z : It} (h : ltI x y = true) (k : ltI y z = true) : ltI x z = true := by
  rw [ltI_iff] at *; omega
theorem ltI_total {x y : It} (h : ltI x y = false) (hne : ¬ (x.seq = y.seq ∧ x.off = y.off)) : ltI y x = true := by
  cases e : ltI y x with
  | true => rfl
  | false =>
    have h1 : ¬ ltI x y = true := by rw [h]; decide
    have h2 : ¬ ltI y x = true := by rw [e]; decide
    rw [ltI_iff] at h1 h2
    omega
def AscI (L : List It) : Prop := L.Pairwise (fun a b => ltI a b = true)
theorem AscI.nil : AscI [] := List.Pairwise.nil
theorem AscI.tail {x : It} {L : List It} (h : AscI (x :: L)) : AscI L := (List.pairwise_cons.1 h).2
theorem AscI.head {x : It} {L : List It} (h : AscI (x :: L)) : ∀ y ∈ L, ltI x y = true := (List.pairwise_cons.1 h).1
theorem AscI.filter {L : List It} (h : AscI L) (p : It → Bool) : AscI (L.filter p) := List.Pairwise.filter p h
def atB (s o : Int) (x : It) : Bool := decide (x.seq = s) && decide (x.off = o)
theorem atB_iff (s o : Int) (x : It) : atB s o x = true ↔ x.seq = s ∧ x.off = o := by unfold atB; simp
/-- no two items at one place -/
theorem AscI.one {L : List It} (h : AscI L) {x y : It} (hx : x ∈ L) (hy : y ∈ L) (hs : x.seq = y.seq) (ho : x.off = y.off) : x = y := by
  induction L with
  | nil => simp at hx
  | cons z L ih =>
    have hh := h.head
    rcases List.mem_cons.1 hx with e | hx'
    · rcases List.mem_cons.1 hy with e' | hy'
      · rw [e, e']
      · have := hh y hy'
        rw [ltI_iff, ← e] at this; omega
    · rcases List.mem_cons.1 hy with e' | hy'
      · have := hh x hx'
        rw [ltI_iff, ← e'] at this; omega
      · exact ih h.tail hx' hy'
def rmI (L : List It) (s o : Int) : List It := L.filter (fun x => !atB s o x)
theorem mem_rmI {L : List It} {s o : Int} {x : It} : x ∈ rmI L s o ↔ x ∈ L ∧ ¬ (x.seq = s ∧ x.off = o) := by
  unfold rmI
  rw [List.mem_filter, Bool.not_eq_true', ← Bool.not_eq_true, atB_iff]
theorem AscI.rm {L : List It} (h : AscI L) (s o : Int) : AscI (rmI L s o) := h.filter _
theorem rmI_none {L : List It} {s o : Int} (h : ∀ x ∈ L, ¬ (x.seq = s ∧ x.off = o)) : rmI L s o = L := by
  unfold rmI
  refine List.filter_eq_self.2 (fun x hx => ?_)
  rw [Bool.not_eq_true', ← Bool.not_eq_true, atB_iff]
  exact h x hx
theorem rmI_length_le (L : List It) (s o : Int) : (rmI L s o).length ≤ L.length := List.length_filter_le _ _
/-- the reference: the item at i is taken out -/
theorem rmI_at {L : List It} {i : Nat} {x : It} (h : AscI L) (hx : L[i]? = some x) : rmI L x.seq x.off = L.take i ++ L.drop (i + 1) := by
  induction L generalizing i with
  | nil => simp at hx
  | cons y L ih =>
    cases i with
    | zero =>
      simp at hx; subst hx
      have e : rmI L y.seq y.off = L := rmI_none (fun z hz hh => by have := h.head z hz; rw [ltI_iff] at this; omega)
      unfold rmI at e ⊢
      rw [List.filter_cons, if_neg (by simp [atB]), e]
      rfl
    | succ i =>
      have hx' : L[i]? = some x := by simpa using hx
      have hm := List.mem_of_getElem? hx'
      have hn : ¬ (y.seq = x.seq ∧ y.off = x.off) := fun hh => by have := h.head x hm; rw [ltI_iff] at this; omega
      have := ih h.tail hx'
      unfold rmI at this ⊢
      rw [List.filter_cons, if_pos (by rw [Bool.not_eq_true', ← Bool.not_eq_true, atB_iff]; exact hn), this]
      rfl
def insI : List It → It → List It
  | [], x => [x]
  | y :: l, x => if ltI y x = true then y :: insI l x else x :: y :: l
theorem insI_perm (l : List It) (x : It) : (insI l x).Perm (x :: l) := by
  induction l with
  | nil => exact List.Perm.refl _
  | cons z l ih =>
    unfold insI
    split
    · exact (ih.cons z).trans (List.Perm.swap _ _ _)
    · exact List.Perm.refl _
theorem mem_insI {l : List It} {x y : It} : y ∈ insI l x ↔ y = x ∨ y ∈ l := by
  rw [(insI_perm l x).mem_iff, List.mem_cons]
theorem insI_length (l : List It) (x : It) : (insI l x).length = l.length + 1 := (insI_perm l x).length_eq
theorem AscI.ins {l : List It} (h : AscI l) (x : It) (hx : ∀ y ∈ l, ¬ (y.seq = x.seq ∧ y.off = x.off)) : AscI (insI l x) := by
  induction l with
  | nil => exact List.pairwise_singleton _ _
  | cons z l ih =>
    unfold insI
    split
    · rename_i hz
      refine List.pairwise_cons.2 ⟨fun y hy => ?_, ih h.tail (fun y hy => hx y (List.mem_cons_of_mem _ hy))⟩
      rcases mem_insI.1 hy with rfl | hy
      · exact hz
      · exact h.head y hy
    · rename_i hz
      have hxz : ltI x z = true := ltI_total (by simpa using hz) (hx z (by simp))
      refine List.pairwise_cons.2 ⟨fun y hy => ?_, h⟩
      rcases List.mem_cons.1 hy with rfl | hy
      · exact hxz
      · exact ltI_trans hxz (h.head y hy)
/-- the reference: the item is laid in at i -/
theorem insI_at {l : List It} {x : It} {i : Nat} (hi : i ≤ l.length) (h1 : ∀ (j : Nat) (y : It), j < i → l[j]? = some y → ltI y x = true) (h2 : ∀ y, l[i]? = some y → ltI y x = false) : insI l x = l.take i ++ x :: l.drop i := by
  induction l generalizing i with
  | nil =>
    have : i = 0 := by simpa using hi
    subst this; rfl
  | cons z l ih =>
    cases i with
    | zero =>
      unfold insI
      rw [if_neg (by rw [h2 z rfl]; decide)]
      rfl
    | succ i =>
      unfold insI
      rw [if_pos (h1 0 z (by omega) rfl), ih (i := i) (by simpa using hi) (fun j y hj hy => h1 (j + 1) y (by omega) (by simpa using hy)) (fun y hy => h2 y (by simpa using hy))]
      rfl
def adI (L : List It) (s o : Int) (k : ByteArray) : List It := insI (rmI L s o) ⟨s, o, k⟩
theorem mem_adI {L : List It} {s o : Int} {k : ByteArray} {x : It} : x ∈ adI L s o k ↔ x = ⟨s, o, k⟩ ∨ (x ∈ L ∧ ¬ (x.seq = s ∧ x.off = o)) := by
  unfold adI; rw [mem_insI, mem_rmI]
theorem AscI.ad {L : List It} (h : AscI L) (s o : Int) (k : ByteArray) : AscI (adI L s o k) := (h.rm s o).ins _ (fun y hy => (mem_rmI.1 hy).2)
theorem adI_length_le (L : List It) (s o : Int) (k : ByteArray) : (adI L s o k).length ≤ L.length + 1 := by
  unfold adI; rw [insI_length]; have := rmI_length_le L s o; omega
def itsI (L : List It) (s : Int) : List It := L.filter (fun x => decide (x.seq = s))
theorem mem_itsI {L : List It} {s : Int} {x : It} : x ∈ itsI L s ↔ x ∈ L ∧ x.seq = s := by unfold itsI; rw [List.mem_filter, decide_eq_true_eq]
theorem AscI.its {L : List It} (h : AscI L) (s : Int) : AscI (itsI L s) := h.filter _
theorem itsI_nil_iff {L : List It} {s : Int} : itsI L s = [] ↔ ¬ ∃ x ∈ L, x.seq = s := by
  rw [List.eq_nil_iff_forall_not_mem]
  constructor
  · rintro h ⟨x, hx, hs⟩; exact h x (mem_itsI.2 ⟨hx, hs⟩)
  · intro h x hx; exact h ⟨x, mem_itsI.1 hx⟩
theorem itsI_rm_other (L : List It) {s s' : Int} (o : Int) (h : s' ≠ s) : itsI (rmI L s o) s' = itsI L s' := by
  unfold itsI rmI
  rw [List.filter_filter]
  refine List.filter_congr (fun x hx => ?_)
  by_cases e : x.seq = s'
  · have : atB s o x = false := by unfold atB; rw [e]; simp [h]
    simp [e, this]
  · simp [e]
theorem itsI_ins_other (l : List It) (x : It) {s' : Int} (h : s' ≠ x.seq) : itsI (insI l x) s' = itsI l s' := by
  induction l with
  | nil => unfold insI itsI; simp [Ne.symm h]
  | cons z l ih =>
    unfold insI
    split
    · unfold itsI at ih ⊢
      rw [List.filter_cons, List.filter_cons, ih]
    · unfold itsI
      rw [List.filter_cons, if_neg (by simp [Ne.symm h])]
theorem itsI_ad_other (L : List It) {s s' : Int} (o : Int) (k : ByteArray) (h : s' ≠ s) : itsI (adI L s o k) s' = itsI L s' := by
  unfold adI; rw [itsI_ins_other _ _ h, itsI_rm_other L o h]
theorem rm_length {L : List It} (h : AscI L) (s o : Int) : (itsI (rmI L s o) s).length + (if ∃ x ∈ itsI L s, x.off = o then 1 else 0) = (itsI L s).length := by
  induction L with
  | nil => simp [itsI, rmI]
  | cons y L ih =>
    have ih := ih h.tail
    have hh := h.head
    by_cases hs : y.seq = s
    · have e1 : itsI (y :: L) s = y :: itsI L s := by unfold itsI; rw [List.filter_cons, if_pos (by simp [hs])]
      by_cases ho : y.off = o
      · have e2 : rmI (y :: L) s o = rmI L s o := by unfold rmI; rw [List.filter_cons, if_neg (by simp [atB, hs, ho])]
        have hno : ¬ ∃ x ∈ itsI L s, x.off = o := by
          rintro ⟨x, hx, hxo⟩
          obtain ⟨hx, hs'⟩ := mem_itsI.1 hx
          have := hh x hx
          rw [ltI_iff] at this
          omega
        rw [if_neg hno] at ih
        rw [e1, e2, if_pos ⟨y, by simp, ho⟩, List.length_cons]
        omega
      · have e2 : itsI (rmI (y :: L) s o) s = y :: itsI (rmI L s o) s := by
          unfold rmI itsI
          rw [List.filter_cons, if_pos (by simp [atB, ho]), List.filter_cons, if_pos (by simp [hs])]
        have e : (∃ x ∈ y :: itsI L s, x.off = o) ↔ ∃ x ∈ itsI L s, x.off = o := by
          constructor
          · rintro ⟨x, hx, hxo⟩
            rcases List.mem_cons.1 hx with rfl | hx
            · exact absurd hxo ho
            · exact ⟨x, hx, hxo⟩
          · rintro ⟨x, hx, hxo⟩; exact ⟨x, List.mem_cons_of_mem _ hx, hxo⟩
        rw [e1, e2, List.length_cons, List.length_cons]
        simp only [e]
        omega
    · have e1 : itsI (y :: L) s = itsI L s := by unfold itsI; rw [List.filter_cons, if_neg (by simp [hs])]
      have e2 : itsI (rmI (y :: L) s o) s = itsI (rmI L s o) s := by
        unfold rmI itsI
        rw [List.filter_cons, if_pos (by simp [atB, hs]), List.filter_cons, if_neg (by simp [hs])]
      rw [e1, e2]
      exact ih
theorem ad_length (L : List It) (s o : Int) (k : ByteArray) : (itsI (adI L s o k) s).length = (itsI (rmI L s o) s).length + 1 := by
  unfold adI itsI
  rw [((insI_perm (rmI L s o) ⟨s, o, k⟩).filter _).length_eq, List.filter_cons, if_pos (by simp), List.length_cons]
def dropI (L : List It) (s : Int) : List It := L.filter (fun x => !decide (x.seq = s))
theorem mem_dropI {L : List It} {s : Int} {x : It} : x ∈ dropI L s ↔ x ∈ L ∧ x.seq ≠ s := by unfold dropI; rw [List.mem_filter]; simp
theorem AscI.drop {L : List It} (h : AscI L) (s : Int) : AscI (dropI L s) := h.filter _
theorem dropI_length_le (L : List It) (s : Int) : (dropI L s).length ≤ L.length := List.length_filter_le _ _
theorem itsI_drop_other (L : List It) {s s' : Int} (h : s' ≠ s) : itsI (dropI L s) s' = itsI L s' := by
  unfold itsI dropI
  rw [List.filter_filter]
  refine List.filter_congr (fun x hx => ?_)
  by_cases e : x.seq = s'
  · simp [e, h]
  · simp [e]
theorem itsI_drop_same (L : List It) (s : Int) : itsI (dropI L s) s = [] := by
  rw [itsI_nil_iff]
  rintro ⟨x, hx, hs⟩
  exact (mem_dropI.1 hx).2 hs
/-- ascending lists with the same members are one -/
theorem ascI_eq : ∀ {a b : List It}, AscI a → AscI b → (∀ x, x ∈ a ↔ x ∈ b) → a = b
  | [], [], _, _, _ => rfl
  | [], y :: b, _, _, h => by have := (h y).2 (by simp); simp at this
  | x :: a, [], _, _, h => by have := (h x).1 (by simp); simp at this
  | x :: a, y :: b, ha, hb, h => by
    have irr : ∀ z : It, ¬ ltI z z = true := fun z hz => by rw [ltI_iff] at hz; omega
    have e : x = y := by
      rcases List.mem_cons.1 ((h x).1 (by simp)) with e | hx
      · exact e
      · rcases List.mem_cons.1 ((h y).2 (by simp)) with e | hy
        · exact e.symm
        · exact absurd (ltI_trans (ha.head y hy) (hb.head x hx)) (irr x)
    subst e
    congr 1
    refine ascI_eq ha.tail hb.tail (fun z => ?_)
    have hz := h z
    rw [List.mem_cons, List.mem_cons] at hz
    constructor
    · intro hm
      rcases hz.1 (.inr hm) with e | h'
      · subst e; exact absurd (ha.head z hm) (irr z)
      · exact h'
    · intro hm
      rcases hz.2 (.inr hm) with e | h'
      · subst e; exact absurd (hb.head z hm) (irr z)
      · exact h'
/-- the numbers of the regions that have items -/
def seqI : List It → List Int
  | [] => []
  | x :: L => if (∃ y ∈ L, y.seq = x.seq) then seqI L else x.seq :: seqI L
theorem mem_seqI {L : List It} {s : Int} : s ∈ seqI L ↔ ∃ x ∈ L, x.seq = s := by
  induction L with
  | nil => simp [seqI]
  | cons x L ih =>
    unfold seqI
    split
    · rename_i h
      rw [ih]
      constructor
      · rintro ⟨y, hy, hs⟩; exact ⟨y, List.mem_cons_of_mem _ hy, hs⟩
      · rintro ⟨y, hy, hs⟩
        rcases List.mem_cons.1 hy with rfl | hy
        · obtain ⟨z, hz, e⟩ := h; exact ⟨z, hz, e.trans hs⟩
        · exact ⟨y, hy, hs⟩
    · rw [List.mem_cons, ih]
      constructor
      · rintro (rfl | ⟨y, hy, hs⟩)
        · exact ⟨x, by simp, rfl⟩
        · exact ⟨y, List.mem_cons_of_mem _ hy, hs⟩
      · rintro ⟨y, hy, hs⟩
        rcases List.mem_cons.1 hy with rfl | hy
        · exact .inl hs.symm
        · exact .inr ⟨y, hy, hs⟩
theorem seqI_asc {L : List It} (h : AscI L) : (seqI L).Pairwise (· < ·) := by
  induction L with
  | nil => exact List.Pairwise.nil
  | cons x L ih =>
    unfold seqI
    split
    · exact ih h.tail
    · rename_i hn
      refine List.pairwise_cons.2 ⟨fun s hs => ?_, ih h.tail⟩
      obtain ⟨y, hy, rfl⟩ := mem_seqI.1 hs
      have := h.head y hy
      rw [ltI_iff] at this
      have : y.seq ≠ x.seq := fun e => hn ⟨y, hy, e⟩
      omega
theorem ascZ_eq : ∀ {a b : List Int}, a.Pairwise (· < ·) → b.Pairwise (· < ·) → (∀ x, x ∈ a ↔ x ∈ b) → a = b
  | [], [], _, _, _ => rfl
  | [], y :: b, _, _, h => by have := (h y).2 (by simp); simp at this
  | x :: a, [], _, _, h => by have := (h x).1 (by simp); simp at this
  | x :: a, y :: b, ha, hb, h => by
    obtain ⟨ha1, ha2⟩ := List.pairwise_cons.1 ha
    obtain ⟨hb1, hb2⟩ := List.pairwise_cons.1 hb
    have e : x = y := by
      rcases List.mem_cons.1 ((h x).1 (by simp)) with e | hx
      · exact e
      · rcases List.mem_cons.1 ((h y).2 (by simp)) with e | hy
        · exact e.symm
        · have := ha1 y hy; have := hb1 x hx; omega
    subst e
    congr 1
    refine ascZ_eq ha2 hb2 (fun z => ?_)
    have hz := h z
    rw [List.mem_cons, List.mem_cons] at hz
    constructor
    · intro hm
      rcases hz.1 (.inr hm) with e | h'
      · subst e; have := ha1 z hm; omega
      · exact h'
    · intro hm
      rcases hz.2 (.inr hm) with e | h'
      · subst e; have := hb1 z hm; omega
      · exact h'
/-- the reference's way to the numbers: one more if it is another than the last one -/
theorem seqI_snoc {L : List It} {x : It} (h : AscI (L ++ [x])) : seqI (L ++ [x]) = if (seqI L).getLast? = some x.seq then seqI L else seqI L ++ [x.seq] := by
  have hL : AscI L := (List.pairwise_append.1 h).1
  have hlt : ∀ y ∈ L, ltI y x = true := fun y hy => (List.pairwise_append.1 h).2.2 y hy x (by simp)
  have hle : ∀ s ∈ seqI L, s ≤ x.seq := fun s hs => by
    obtain ⟨y, hy, rfl⟩ := mem_seqI.1 hs
    have := hlt y hy; rw [ltI_iff] at this; omega
  have hA := seqI_asc hL
  split
  · rename_i hl
    refine ascZ_eq (seqI_asc h) hA (fun s => ?_)
    rw [mem_seqI]
    constructor
    · rintro ⟨y, hy, rfl⟩
      rcases List.mem_append.1 hy with hy | hy
      · exact mem_seqI.2 ⟨y, hy, rfl⟩
      · simp at hy; subst hy; exact List.mem_of_getLast? hl
    · intro hs
      obtain ⟨y, hy, e⟩ := mem_seqI.1 hs
      exact ⟨y, by simp [hy], e⟩
  · rename_i hl
    have hni : x.seq ∉ seqI L := fun hm => by
      rcases List.eq_nil_or_concat (seqI L) with e | ⟨q, z, e⟩
      · rw [e] at hm; simp at hm
      · rw [List.concat_eq_append] at e
        rw [e, List.getLast?_concat] at hl
        have hz : z ≠ x.seq := fun e' => hl (by rw [e'])
        have hzl := hle z (by rw [e]; simp)
        rw [e] at hm hA
        rcases List.mem_append.1 hm with hm | hm
        · have := (List.pairwise_append.1 hA).2.2 _ hm z (by simp)
          omega
        · simp at hm; exact hz hm.symm
    refine ascZ_eq (seqI_asc h) (List.pairwise_append.2 ⟨hA, List.pairwise_singleton _ _, fun a ha b hb => ?_⟩) (fun s => ?_)
    · simp at hb; subst hb
      have := hle a ha
      have : a ≠ x.seq := fun e => hni (e ▸ ha)
      omega
    · rw [mem_seqI, List.mem_append, List.mem_singleton, mem_seqI]
      constructor
      · rintro ⟨y, hy, rfl⟩
        rcases List.mem_append.1 hy with hy | hy
        · exact .inl ⟨y, hy, rfl⟩
        · simp at hy; subst hy; exact .inr rfl
      · rintro (⟨y, hy, e⟩ | rfl)
        · exact ⟨y, by simp [hy], e⟩
        · exact ⟨x, by simp, rfl⟩
theorem seqI_length_le (L : List It) : (seqI L).length ≤ L.length := by
  induction L with
  | nil => simp [seqI]
  | cons x L ih => unfold seqI; split <;> simp <;> omega
end Go.Proofs.Ytdjjmglocdhnhaa
