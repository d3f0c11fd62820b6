/-
  The pairs of a table: the map's datum, the order of keys, lists of pairs. No program here.
-/
import Derived.Test.YtbfkhghegkiifaaTabInv
import Derived.Test.YtbfkhghegkiifaaCmp
import Derived.Maps.OwnSet
import Derived.Maps.OwnOps
import Derived.Sort.KeysCollected
import Derived.Sort.Statements
namespace Go.Proofs.Ytbfkhghegkiifaa
open Go.RowKit Go.Maps
set_option linter.unusedVariables false
/-! the order of strings -/
theorem bl_irrefl : ∀ x : List UInt8, Op.bytesLess x x = false
  | [] => rfl
  | a :: x => by simp [Op.bytesLess, bl_irrefl x]
theorem bl_trans : ∀ x y z : List UInt8, Op.bytesLess x y = true → Op.bytesLess y z = true → Op.bytesLess x z = true
  | _, [], _, h, _ => by simp [Op.bytesLess] at h
  | _, _ :: _, [], _, h => by simp [Op.bytesLess] at h
  | [], _ :: _, _ :: _, _, _ => rfl
  | a :: x, b :: y, c :: z, h, k => by
    simp only [Op.bytesLess, Bool.or_eq_true, decide_eq_true_eq, Bool.and_eq_true, beq_iff_eq] at h k ⊢
    rcases h with h | ⟨h, h'⟩ <;> rcases k with k | ⟨k, k'⟩
    · exact .inl (UInt8.lt_trans h k)
    · exact .inl (k ▸ h)
    · exact .inl (h ▸ k)
    · exact .inr ⟨h.trans k, bl_trans x y z h' k'⟩
theorem bl_total : ∀ x y : List UInt8, Op.bytesLess x y = false → Op.bytesLess y x = false → x = y
  | [], [], _, _ => rfl
  | [], _ :: _, h, _ => by simp [Op.bytesLess] at h
  | _ :: _, [], _, h => by simp [Op.bytesLess] at h
  | a :: x, b :: y, h, k => by
    simp only [Op.bytesLess, Bool.or_eq_false_iff, decide_eq_false_iff_not, Bool.and_eq_false_iff, beq_eq_false_iff_ne, ne_eq] at h k
    have hab : a = b := by
      have h1 : ¬ a.toNat < b.toNat := fun e => h.1 (UInt8.lt_iff_toNat_lt.2 e)
      have h2 : ¬ b.toNat < a.toNat := fun e => k.1 (UInt8.lt_iff_toNat_lt.2 e)
      exact UInt8.toNat_inj.1 (by omega)
    subst hab
    rw [bl_total x y (h.2.resolve_left (by simp)) (k.2.resolve_left (by simp))]
theorem toList_inj {a b : ByteArray} (h : a.toList = b.toList) : a = b := by
  rw [ByteArray.toList_eq, ByteArray.toList_eq] at h
  exact WideShapes.bytes_inj h
theorem ltS_irrefl (a : ByteArray) : ltS a a = false := bl_irrefl _
theorem ltS_trans {a b c : ByteArray} (h : ltS a b = true) (k : ltS b c = true) : ltS a c = true := bl_trans _ _ _ h k
theorem ltS_total {a b : ByteArray} (h : ltS a b = false) (k : ltS b a = false) : a = b := toList_inj (bl_total _ _ h k)
theorem ltS_ne {a b : ByteArray} (h : ltS a b = true) : a ≠ b := by rintro rfl; rw [ltS_irrefl] at h; cases h
theorem ltS_asymm {a b : ByteArray} (h : ltS a b = true) : ltS b a = false := by
  cases e : ltS b a with
  | false => rfl
  | true => have := ltS_trans h e; rw [ltS_irrefl] at this; cases this
theorem ltS_of_not {a b : ByteArray} (hne : a ≠ b) (h : ltS a b = false) : ltS b a = true := by
  cases e : ltS b a with
  | true => rfl
  | false => exact absurd (ltS_total h e) hne
theorem cmpS_neg (a b : ByteArray) : decide (cmpS a b < 0) = ltS a b := by
  unfold cmpS
  cases h : ltS a b with
  | true => simp
  | false => simp only [Bool.false_eq_true, if_false]; split <;> simp
/-! lists of pairs -/
structure Pr where
  key : ByteArray
  en : Ent
def bys (k : ByteArray) : List UInt8 := k.data.toList
theorem bys_inj {a b : ByteArray} (h : bys a = bys b) : a = b := WideShapes.bytes_inj h
def klit (k : ByteArray) : Lit := .string k.data.toList
theorem klit_inj {a b : ByteArray} (h : a ≠ b) : klit a ≠ klit b := fun e => h (WideShapes.bytes_inj (by unfold klit at e; injection e))
theorem klit_key (k : ByteArray) : WideAt.IsKeyLit (klit k) := trivial
def prsOf (l : List Pl) : List Pr := l.filterMap (fun p => if p.st = 1 then some ⟨p.key, p.en⟩ else none)
theorem prsOf_snoc (l : List Pl) (p : Pl) : prsOf (l ++ [p]) = prsOf l ++ (if p.st = 1 then [⟨p.key, p.en⟩] else []) := by
  unfold prsOf
  rw [List.filterMap_append]
  by_cases h : p.st = 1 <;> simp [h]
theorem mem_prsOf {l : List Pl} {x : Pr} : x ∈ prsOf l ↔ HasK l x.key x.en := by
  unfold prsOf HasK
  rw [List.mem_filterMap]
  constructor
  · rintro ⟨p, hp, h⟩
    obtain ⟨i, hi⟩ := List.mem_iff_getElem?.1 hp
    split at h
    · rename_i h1; cases h; exact ⟨i, p, hi, h1, rfl, rfl⟩
    · cases h
  · rintro ⟨i, p, hi, h1, h2, h3⟩
    refine ⟨p, List.mem_of_getElem? hi, ?_⟩
    rw [if_pos h1, h2, h3]
theorem prsOf_length (l : List Pl) : (prsOf l).length = usedN l := by
  induction l with
  | nil => rfl
  | cons p l ih =>
    unfold prsOf usedN at ih ⊢
    rw [List.filterMap_cons, List.countP_cons]
    by_cases h : p.st = 1
    · simp [h, ih]
    · simp [h, ih]
def Apart (ps : List Pr) : Prop := ps.Pairwise (fun a b => a.key ≠ b.key)
theorem apart_prsOf {home : ByteArray → Nat} {l : List Pl} (h : Inv home l) : Apart (prsOf l) := by
  unfold Apart prsOf
  rw [List.pairwise_filterMap, List.pairwise_iff_getElem]
  intro i j hi hj hij b hb b' hb' e
  split at hb
  · rename_i h1
    split at hb'
    · rename_i h2
      cases hb
      cases hb'
      have := h.uniq i j _ _ (List.getElem?_eq_getElem hi) (List.getElem?_eq_getElem hj) h1 h2 e
      omega
    · cases hb'
  · cases hb
/-- the pairs of a table, in the order of its places -/
def prs (T : Tab) : List Pr := prsOf T.now ++ prsOf T.old
theorem mem_prs {T : Tab} {x : Pr} : x ∈ prs T ↔ Has T x.key x.en := by
  unfold prs Has
  rw [List.mem_append, mem_prsOf, mem_prsOf]
theorem prs_length {T : Tab} (h : TI T) : (prs T).length = T.nowLen + T.oldLen := by
  unfold prs
  rw [List.length_append, prsOf_length, prsOf_length, h.cnow, h.cold]
theorem TI.old_apart {T : Tab} (h : TI T) : Apart (prsOf T.old) := by
  rcases h.iold with ⟨h1, _⟩ | ⟨_, _, _, h1, _⟩
  · rw [h1]; exact List.Pairwise.nil
  · exact apart_prsOf h1
theorem prs_apart {T : Tab} (h : TI T) : Apart (prs T) := by
  refine List.pairwise_append.2 ⟨apart_prsOf h.inow, h.old_apart, fun a ha b hb e => ?_⟩
  have h1 := mem_prsOf.1 ha
  have h2 := mem_prsOf.1 hb
  rw [← e] at h2
  exact h.disj _ _ _ h1 h2
/-! the map's datum -/
def datum (ps : List Pr) : DataW Ent := ps.foldl (fun D p => D.put (klit p.key) (.held p.en)) (.map [])
theorem datum_nil : datum [] = .map [] := rfl
theorem datum_snoc (ps : List Pr) (p : Pr) : datum (ps ++ [p]) = (datum ps).put (klit p.key) (.held p.en) := by
  unfold datum
  rw [List.foldl_append]
  rfl
theorem datum_all (ps : List Pr) : Maps.Tidy (datum ps) ∧ (∀ k, Maps.has (datum ps) (klit k) = true ↔ ∃ p ∈ ps, p.key = k) ∧ (Apart ps → Maps.size (datum ps) = ps.length ∧ ∀ p ∈ ps, ∀ z, (datum ps).atKey (klit p.key) z = .held p.en) := by
  generalize hn : ps.length = n
  induction n generalizing ps with
  | zero =>
    obtain rfl := List.length_eq_zero_iff.1 hn
    refine ⟨Maps.tidy_empty, fun k => ?_, fun _ => ⟨rfl, by simp⟩⟩
    constructor
    · intro h; cases h
    · rintro ⟨p, hp, _⟩; cases hp
  | succ n ih =>
    have hne : ps ≠ [] := fun e => by rw [e] at hn; simp at hn
    have hps := List.dropLast_concat_getLast hne
    generalize ps.getLast hne = x at hps
    generalize ps.dropLast = qs at hps
    subst hps
    have hq : qs.length = n := by simp at hn; exact hn
    obtain ⟨h1, h2, h3⟩ := ih qs hq
    rw [datum_snoc]
    refine ⟨h1.put (klit_key _) _, fun k => ?_, fun ha => ?_⟩
    · by_cases hk : k = x.key
      · subst hk
        rw [Maps.has_put_same h1.isMap (klit_key _)]
        exact ⟨fun _ => ⟨x, by simp, rfl⟩, fun _ => rfl⟩
      · rw [Maps.has_put_other (klit_inj hk), h2 k]
        constructor
        · rintro ⟨p, hp, h⟩; exact ⟨p, by simp [hp], h⟩
        · rintro ⟨p, hp, h⟩
          rcases List.mem_append.1 hp with hp | hp
          · exact ⟨p, hp, h⟩
          · simp at hp; subst hp; exact absurd h.symm hk
    · obtain ⟨a1, _, a2⟩ := List.pairwise_append.1 ha
      obtain ⟨h4, h5⟩ := h3 a1
      have hno : Maps.has (datum qs) (klit x.key) = false := by
        rw [← Bool.not_eq_true, h2]
        rintro ⟨p, hp, h⟩
        exact a2 p hp x (by simp) h
      refine ⟨?_, fun p hp z => ?_⟩
      · rw [Maps.size_put h1, hno, h4]
        try simp
      · rcases List.mem_append.1 hp with hp | hp
        · rw [Maps.atKey_put_other (klit_inj (a2 p hp x (by simp)))]
          exact h5 p hp z
        · simp at hp; subst hp
          exact Maps.atKey_put_same h1.isMap (klit_key _) _ _
/-! sorted lists of pairs -/
def Asc (ps : List Pr) : Prop := ps.Pairwise (fun a b => ltS a.key b.key = true)
theorem Asc.apart {ps : List Pr} (h : Asc ps) : Apart ps := List.Pairwise.imp (fun h => ltS_ne h) h
theorem asc_eq : ∀ (l l' : List Pr), Asc l → Asc l' → (∀ x, x ∈ l ↔ x ∈ l') → l = l'
  | [], [], _, _, _ => rfl
  | [], y :: l', _, _, h => by have := (h y).2 (by simp); simp at this
  | x :: l, [], _, _, h => by have := (h x).1 (by simp); simp at this
  | x :: l, y :: l', h1, h2, h => by
    obtain ⟨a1, b1⟩ := List.pairwise_cons.1 h1
    obtain ⟨a2, b2⟩ := List.pairwise_cons.1 h2
    have e : x = y := by
      rcases List.mem_cons.1 ((h x).1 (by simp)) with e | e
      · exact e
      · rcases List.mem_cons.1 ((h y).2 (by simp)) with e' | e'
        · exact e'.symm
        · have u := a2 x e
          have v := a1 y e'
          rw [ltS_asymm u] at v; cases v
    subst e
    rw [asc_eq l l' b1 b2 (fun z => ?_)]
    constructor
    · intro hz
      rcases List.mem_cons.1 ((h z).1 (List.mem_cons_of_mem _ hz)) with e | e
      · subst e; have := a1 z hz; rw [ltS_irrefl] at this; cases this
      · exact e
    · intro hz
      rcases List.mem_cons.1 ((h z).2 (List.mem_cons_of_mem _ hz)) with e | e
      · subst e; have := a2 z hz; rw [ltS_irrefl] at this; cases this
      · exact e
theorem asc_perm {l l' : List Pr} (h1 : Asc l) (h2 : Asc l') (h : l.Perm l') : l = l' := asc_eq l l' h1 h2 (fun x => h.mem_iff)
/-- sorted keys, a permutation of those of apart pairs: the pairs in their order -/
theorem pairs_sorted {ks : List ByteArray} {ps : List Pr} (ha : Apart ps) (hp : ks.Perm (ps.map Pr.key)) (hs : ks.Pairwise (fun a b => ltS b a = false)) :
    ∃ qs : List Pr, qs.Perm ps ∧ Asc qs ∧ qs.map Pr.key = ks := by
  induction ks generalizing ps with
  | nil =>
    have := hp.length_eq
    simp at this
    have := List.length_eq_zero_iff.1 this.symm
    subst this
    exact ⟨[], List.Perm.refl _, List.Pairwise.nil, rfl⟩
  | cons k ks ih =>
    obtain ⟨x, hx, rfl⟩ := List.mem_map.1 (hp.mem_iff.1 (List.mem_cons_self (a := k) (l := ks)))
    obtain ⟨l1, l2, rfl⟩ := List.append_of_mem hx
    have hmid : (l1 ++ x :: l2).Perm (x :: (l1 ++ l2)) := List.perm_middle
    have ha' : Apart (x :: (l1 ++ l2)) := (hmid.pairwise_iff (fun {_ _} hne => Ne.symm hne)).1 ha
    obtain ⟨c1, c2⟩ := List.pairwise_cons.1 ha'
    have hp' : ks.Perm ((l1 ++ l2).map Pr.key) := List.Perm.cons_inv (hp.trans (hmid.map Pr.key))
    obtain ⟨s1, s2⟩ := List.pairwise_cons.1 hs
    obtain ⟨qs, q1, q2, q3⟩ := ih c2 hp' s2
    refine ⟨x :: qs, (q1.cons x).trans hmid.symm, List.pairwise_cons.2 ⟨fun y hy => ?_, q2⟩, by rw [List.map_cons, q3]⟩
    have hy' := q1.mem_iff.1 hy
    have hk : y.key ∈ ks := by rw [← q3]; exact List.mem_map_of_mem hy
    exact ltS_of_not (fun e => c1 y hy' e.symm) (s1 _ hk)
end Go.Proofs.Ytbfkhghegkiifaa
