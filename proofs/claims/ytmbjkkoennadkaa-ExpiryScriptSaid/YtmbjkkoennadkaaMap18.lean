/-
  The map of the queue, and the sorted list that it stands for.
-/
import Derived.Test.YtmbjkkoennadkaaHeapPlain
import Derived.Maps.OwnSet
import Derived.Maps.OwnOps
import Derived.Maps.RangeWalk
namespace Go.Proofs.Ytmbjkkoennadkaa
open Go.Maps
def look : List Item → ByteArray → Int
  | [], _ => 0
  | x :: l, k => if x.key = k then x.at' else look l k
def remL (l : List Item) (k : ByteArray) : List Item := l.filter (fun x => decide (x.key ≠ k))
def insL : List Item → Item → List Item
  | [], x => [x]
  | y :: l, x => if ltI y x = true then y :: insL l x else x :: y :: l
def putL (l : List Item) (k : ByteArray) (a : Int) : List Item := if a < 1 then remL l k else insL (remL l k) ⟨k, a⟩
/-- the list: rising, no key twice, each time from 1 on -/
structure Rising (l : List Item) : Prop where
  up : l.Pairwise (fun a b => ltI a b = true)
  keys : l.Pairwise (fun a b => a.key ≠ b.key)
  pos : ∀ x ∈ l, 1 ≤ x.at'
theorem Rising.nil : Rising [] := ⟨List.Pairwise.nil, List.Pairwise.nil, by simp⟩
theorem Rising.tail {x : Item} {l : List Item} (h : Rising (x :: l)) : Rising l := ⟨(List.pairwise_cons.1 h.up).2, (List.pairwise_cons.1 h.keys).2, fun y hy => h.pos y (List.mem_cons_of_mem _ hy)⟩
theorem look_mem {l : List Item} {k : ByteArray} (h : look l k ≠ 0) : ⟨k, look l k⟩ ∈ l := by
  induction l with
  | nil => simp [look] at h
  | cons x l ih =>
    unfold look at h ⊢
    split
    · rename_i he; subst he; simp
    · rename_i he
      rw [if_neg he] at h
      exact List.mem_cons_of_mem _ (ih h)
theorem look_of_mem {l : List Item} (h : l.Pairwise (fun a b => a.key ≠ b.key)) {x : Item} (hx : x ∈ l) : look l x.key = x.at' := by
  induction l with
  | nil => simp at hx
  | cons y l ih =>
    obtain ⟨h1, h2⟩ := List.pairwise_cons.1 h
    unfold look
    rcases List.mem_cons.1 hx with rfl | hx
    · rw [if_pos rfl]
    · rw [if_neg (h1 x hx)]; exact ih h2 hx
theorem look_none {l : List Item} {k : ByteArray} (h : ∀ x ∈ l, x.key ≠ k) : look l k = 0 := by
  induction l with
  | nil => rfl
  | cons x l ih =>
    unfold look
    rw [if_neg (h x (by simp))]
    exact ih (fun y hy => h y (List.mem_cons_of_mem _ hy))
theorem mem_remL {l : List Item} {k : ByteArray} {x : Item} : x ∈ remL l k ↔ x ∈ l ∧ x.key ≠ k := by simp [remL]
theorem look_rem_same (l : List Item) (k : ByteArray) : look (remL l k) k = 0 := look_none (fun _ hx => (mem_remL.1 hx).2)
theorem look_rem_other (l : List Item) {k k' : ByteArray} (h : k' ≠ k) : look (remL l k) k' = look l k' := by
  induction l with
  | nil => rfl
  | cons x l ih =>
    unfold remL at ih ⊢
    rw [List.filter_cons]
    by_cases hx : x.key = k
    · rw [if_neg (by simp [hx])]
      conv => rhs; unfold look
      rw [if_neg (by rw [hx]; exact Ne.symm h)]
      exact ih
    · rw [if_pos (by simp [hx])]
      unfold look
      rw [ih]
theorem Rising.rem {l : List Item} (h : Rising l) (k : ByteArray) : Rising (remL l k) := ⟨h.up.filter _, h.keys.filter _, fun x hx => h.pos x (mem_remL.1 hx).1⟩
theorem mem_insL {l : List Item} {x y : Item} : y ∈ insL l x ↔ y = x ∨ y ∈ l := by
  induction l with
  | nil => simp [insL]
  | cons z l ih =>
    unfold insL
    split
    · rw [List.mem_cons, ih, List.mem_cons]
      constructor
      · rintro (h | h | h)
        · exact .inr (.inl h)
        · exact .inl h
        · exact .inr (.inr h)
      · rintro (h | h | h)
        · exact .inr (.inl h)
        · exact .inl h
        · exact .inr (.inr h)
    · rw [List.mem_cons]
theorem insL_length (l : List Item) (x : Item) : (insL l x).length = l.length + 1 := by
  induction l with
  | nil => rfl
  | cons z l ih => unfold insL; split <;> simp [ih]
theorem look_ins_same (l : List Item) (x : Item) (h : ∀ y ∈ l, y.key ≠ x.key) : look (insL l x) x.key = x.at' := by
  induction l with
  | nil => simp [insL, look]
  | cons z l ih =>
    unfold insL
    split
    · unfold look; rw [if_neg (h z (by simp))]; exact ih (fun y hy => h y (List.mem_cons_of_mem _ hy))
    · unfold look; rw [if_pos rfl]
theorem look_ins_other (l : List Item) (x : Item) {k : ByteArray} (h : k ≠ x.key) : look (insL l x) k = look l k := by
  induction l with
  | nil => simp [insL, look, Ne.symm h]
  | cons z l ih =>
    unfold insL
    split
    · unfold look; rw [ih]
    · conv => lhs; unfold look
      rw [if_neg (Ne.symm h)]
theorem Rising.ins {l : List Item} (h : Rising l) (x : Item) (hk : ∀ y ∈ l, y.key ≠ x.key) (hx : 1 ≤ x.at') : Rising (insL l x) := by
  refine ⟨?_, ?_, fun y hy => ?_⟩
  · induction l with
    | nil => simp [insL]
    | cons z l ih =>
      unfold insL
      obtain ⟨h1, h2⟩ := List.pairwise_cons.1 h.up
      split
      · rename_i hz
        refine List.pairwise_cons.2 ⟨fun y hy => ?_, ih h.tail (fun y hy => hk y (List.mem_cons_of_mem _ hy))⟩
        rcases mem_insL.1 hy with rfl | hy
        · exact hz
        · exact h1 y hy
      · rename_i hz
        simp only [Bool.not_eq_true] at hz
        have hxz : ltI x z = true := by
          cases e : ltI x z
          · have := ltI_total e hz
            exact absurd (by rw [this]) (hk z (by simp))
          · rfl
        refine List.pairwise_cons.2 ⟨fun y hy => ?_, h.up⟩
        rcases List.mem_cons.1 hy with rfl | hy
        · exact hxz
        · exact ltI_trans hxz (h1 y hy)
  · have hp : (insL l x).Perm (x :: l) := by
      induction l with
      | nil => exact List.Perm.refl _
      | cons z l ih =>
        unfold insL
        split
        · exact ((ih h.tail (fun y hy => hk y (List.mem_cons_of_mem _ hy))).cons z).trans (List.Perm.swap _ _ _)
        · exact List.Perm.refl _
    exact (hp.pairwise_iff (fun {_ _} hne => Ne.symm hne)).2 (List.pairwise_cons.2 ⟨fun y hy => Ne.symm (hk y hy), h.keys⟩)
  · rcases mem_insL.1 hy with rfl | hy
    · exact hx
    · exact h.pos y hy
theorem Rising.put {l : List Item} (h : Rising l) (k : ByteArray) (a : Int) : Rising (putL l k a) := by
  unfold putL
  split
  · exact h.rem k
  · exact (h.rem k).ins _ (fun y hy => (mem_remL.1 hy).2) (by simp; omega)
theorem remL_length {l : List Item} (h : Rising l) (k : ByteArray) : (remL l k).length + (if look l k ≠ 0 then 1 else 0) = l.length := by
  induction l with
  | nil => simp [remL, look]
  | cons x l ih =>
    have ih := ih h.tail
    unfold remL at ih ⊢
    rw [List.filter_cons]
    by_cases hx : x.key = k
    · rw [if_neg (by simp [hx])]
      have hp := h.pos x (by simp)
      have e0 : look l k = 0 := look_none (fun y hy => by rw [← hx]; exact Ne.symm ((List.pairwise_cons.1 h.keys).1 y hy))
      have e1 : look (x :: l) k = x.at' := by unfold look; rw [if_pos hx]
      rw [e0, if_neg (by simp)] at ih
      rw [e1, if_pos (by omega)]
      simp at ih ⊢
      exact ih
    · rw [if_pos (by simp [hx])]
      have e1 : look (x :: l) k = look l k := by conv => lhs; unfold look
                                                 rw [if_neg hx]
      rw [e1, List.length_cons, List.length_cons]
      omega
/-! what the map's datum says of the list -/
def klit (k : ByteArray) : Lit := .string k.data.toList
theorem klit_inj {a b : ByteArray} (h : a ≠ b) : klit a ≠ klit b := fun e => h (WideShapes.bytes_inj (by unfold klit at e; injection e))
theorem klit_key (k : ByteArray) : WideAt.IsKeyLit (klit k) := trivial
def zlit (a : Int) : DataW Nat := .lit (.int .i64 a)
structure Agree (D : DataW Nat) (l : List Item) : Prop where
  at' : ∀ k, D.atKey (klit k) (zlit 0) = zlit (look l k)
  has : ∀ k, Maps.has D (klit k) = decide (look l k ≠ 0)
  size : Maps.size D = l.length
theorem Agree.nil : Agree (.map []) [] := ⟨fun _ => rfl, fun _ => rfl, rfl⟩
theorem Agree.del {D : DataW Nat} {l : List Item} (hT : Maps.Tidy D) (hr : Rising l) (h : Agree D l) (k : ByteArray) : Agree (D.del (klit k)) (remL l k) := by
  refine ⟨fun k' => ?_, fun k' => ?_, ?_⟩
  · by_cases hk : k' = k
    · subst hk; rw [Maps.atKey_del_same, look_rem_same]
    · rw [Maps.atKey_del_other (klit_inj hk), look_rem_other l hk]; exact h.at' k'
  · by_cases hk : k' = k
    · subst hk; rw [Maps.has_del_same, look_rem_same]; rfl
    · rw [Maps.has_del_other (klit_inj hk), look_rem_other l hk]; exact h.has k'
  · have e1 := Maps.size_del (k := klit k) hT
    have e2 := remL_length hr k
    rw [h.has k, h.size] at e1
    simp only [decide_eq_true_eq] at e1
    omega
theorem Agree.put {D : DataW Nat} {l : List Item} (hT : Maps.Tidy D) (h : Agree D l) (x : Item) (hx : 1 ≤ x.at') (hk : ∀ y ∈ l, y.key ≠ x.key) : Agree (D.put (klit x.key) (zlit x.at')) (insL l x) := by
  refine ⟨fun k' => ?_, fun k' => ?_, ?_⟩
  · by_cases hk' : k' = x.key
    · subst hk'; rw [Maps.atKey_put_same hT.isMap (klit_key _), look_ins_same l x hk]
    · rw [Maps.atKey_put_other (klit_inj hk'), look_ins_other l x hk']; exact h.at' k'
  · by_cases hk' : k' = x.key
    · subst hk'; rw [Maps.has_put_same hT.isMap (klit_key _), look_ins_same l x hk]
      symm; rw [decide_eq_true_eq]; omega
    · rw [Maps.has_put_other (klit_inj hk'), look_ins_other l x hk']; exact h.has k'
  · rw [Maps.size_put hT, h.has, look_none hk, h.size, insL_length]
    rfl
end Go.Proofs.Ytmbjkkoennadkaa
