/-
  Laws and contracts for the statement TopExpired.
-/
import Derived.Maps.OwnOps
import Derived.Sort.KeysCollected
import Derived.Sort.Statements
import Derived.Deep.QuietTactic
import Derived.WalkSmall
import Derived.Laws.MakeOwn
import Derived.Test.YtbikkioipamlmaaGreatDoorX15
open Go.Lib (hid)
open Go.Proofs.Tryz (prog)
set_option linter.unusedVariables false
set_option linter.unusedSimpArgs false
set_option maxRecDepth 100000
set_option maxHeartbeats 20000000
namespace Go.Proofs.YtbikkioipamlmaaGreatDoor.T16
open Go.Maps Go.RowKit
theorem bl_irrefl : ∀ x : List UInt8, Op.bytesLess x x = false
  | [] => rfl
  | a :: x => by simp [Op.bytesLess, bl_irrefl x]
theorem bl_trans : ∀ x y z : List UInt8, Op.bytesLess x y = true -> Op.bytesLess y z = true -> Op.bytesLess x z = true
  | _, [], _, h, _ => by simp [Op.bytesLess] at h
  | _, _ :: _, [], _, h => by simp [Op.bytesLess] at h
  | [], _ :: _, _ :: _, _, _ => rfl
  | a :: x, b :: y, c :: z, h, k => by
    simp only [Op.bytesLess, Bool.or_eq_true, decide_eq_true_eq, Bool.and_eq_true, beq_iff_eq] at h k ⊢
    rcases h with h | ⟨h, h'⟩ <;> rcases k with k | ⟨k, k'⟩
    · exact .inl (UInt8.lt_trans h k)
    · exact .inl (k ▸ h)
    · exact .inl (h ▸ k)
    · exact .inr ⟨h.trans k, bl_trans x y z h' k'⟩
theorem bl_total : ∀ x y : List UInt8, Op.bytesLess x y = false -> Op.bytesLess y x = false -> x = y
  | [], [], _, _ => rfl
  | [], _ :: _, h, _ => by simp [Op.bytesLess] at h
  | _ :: _, [], _, h => by simp [Op.bytesLess] at h
  | a :: x, b :: y, h, k => by
    simp only [Op.bytesLess, Bool.or_eq_false_iff, decide_eq_false_iff_not, Bool.and_eq_false_iff, beq_eq_false_iff_ne, ne_eq] at h k
    have hab : a = b := by
      have h1 : ¬ a.toNat < b.toNat := fun e => h.1 (UInt8.lt_iff_toNat_lt.2 e)
      have h2 : ¬ b.toNat < a.toNat := fun e => k.1 (UInt8.lt_iff_toNat_lt.2 e)
      exact UInt8.toNat_inj.1 (by omega)
    subst hab
    rw [bl_total x y (h.2.resolve_left (by simp)) (k.2.resolve_left (by simp))]
theorem toList_inj {a b : ByteArray} (h : a.toList = b.toList) : a = b := by
  rw [ByteArray.toList_eq, ByteArray.toList_eq] at h
  exact WideShapes.bytes_inj h
theorem ltS_irrefl (a : ByteArray) : ltS a a = false := bl_irrefl _
theorem ltS_trans {a b c : ByteArray} (h : ltS a b = true) (k : ltS b c = true) : ltS a c = true := bl_trans _ _ _ h k
theorem ltS_total {a b : ByteArray} (h : ltS a b = false) (k : ltS b a = false) : a = b := toList_inj (bl_total _ _ h k)
theorem ltS_asymm {a b : ByteArray} (h : ltS a b = true) : ltS b a = false := by
  cases e : ltS b a with
  | false => rfl
  | true => have := ltS_trans h e; rw [ltS_irrefl] at this; cases this
theorem ltS_of_not {a b : ByteArray} (hne : a ≠ b) (h : ltS a b = false) : ltS b a = true := by
  cases e : ltS b a with
  | true => rfl
  | false => exact absurd (ltS_total h e) hne
theorem cmpS_neg (a b : ByteArray) : decide (cmpS a b < 0) = ltS a b := by
  unfold cmpS
  cases h : ltS a b with
  | true => simp
  | false => simp only [Bool.false_eq_true, if_false]; split <;> simp
structure Pr where
  key : ByteArray
  en : Ent
def bys (k : ByteArray) : List UInt8 := k.data.toList
theorem bys_inj {a b : ByteArray} (h : bys a = bys b) : a = b := WideShapes.bytes_inj h
def klit (k : ByteArray) : Lit := .string k.data.toList
theorem klit_inj {a b : ByteArray} (h : a ≠ b) : klit a ≠ klit b := fun e => h (WideShapes.bytes_inj (by unfold klit at e; injection e))
theorem klit_key (k : ByteArray) : WideAt.IsKeyLit (klit k) := trivial
def prsOf (l : List Pl) : List Pr := l.filterMap (fun p => if p.st = 1 then some ⟨p.key, p.en⟩ else none)
theorem prsOf_snoc (l : List Pl) (p : Pl) : prsOf (l ++ [p]) = prsOf l ++ (if p.st = 1 then [⟨p.key, p.en⟩] else []) := by
  unfold prsOf
  rw [List.filterMap_append]
  by_cases h : p.st = 1 <;> simp [h]
theorem mem_prsOf {l : List Pl} {x : Pr} : x ∈ prsOf l ↔ HasK l x.key x.en := by
  unfold prsOf HasK
  rw [List.mem_filterMap]
  constructor
  · rintro ⟨p, hp, h⟩
    obtain ⟨i, hi⟩ := List.mem_iff_getElem?.1 hp
    split at h
    · rename_i h1; cases h; exact ⟨i, p, hi, h1, rfl, rfl⟩
    · cases h
  · rintro ⟨i, p, hi, h1, h2, h3⟩
    refine ⟨p, List.mem_of_getElem? hi, ?_⟩
    rw [if_pos h1, h2, h3]
theorem prsOf_length (l : List Pl) : (prsOf l).length = usedN l := by
  induction l with
  | nil => rfl
  | cons p l ih =>
    unfold prsOf usedN at ih ⊢
    rw [List.filterMap_cons, List.countP_cons]
    by_cases h : p.st = 1
    · simp [h, ih]
    · simp [h, ih]
def Apart (ps : List Pr) : Prop := ps.Pairwise (fun a b => a.key ≠ b.key)
theorem apart_prsOf {home : ByteArray -> Nat} {l : List Pl} (h : Inv home l) : Apart (prsOf l) := by
  unfold Apart prsOf
  rw [List.pairwise_filterMap, List.pairwise_iff_getElem]
  intro i j hi hj hij b hb b' hb' e
  split at hb
  · rename_i h1
    split at hb'
    · rename_i h2
      cases hb
      cases hb'
      have := h.uniq i j _ _ (List.getElem?_eq_getElem hi) (List.getElem?_eq_getElem hj) h1 h2 e
      omega
    · cases hb'
  · cases hb
def prs (T : Tab) : List Pr := prsOf T.now ++ prsOf T.old
theorem mem_prs {T : Tab} {x : Pr} : x ∈ prs T ↔ Has T x.key x.en := by
  unfold prs Has
  rw [List.mem_append, mem_prsOf, mem_prsOf]
theorem prs_length {T : Tab} (h : TI T) : (prs T).length = T.nowLen + T.oldLen := by
  unfold prs
  rw [List.length_append, prsOf_length, prsOf_length, h.cnow, h.cold]
theorem TI.old_apart {T : Tab} (h : TI T) : Apart (prsOf T.old) := by
  rcases h.iold with ⟨h1, _⟩ | ⟨_, _, _, h1, _⟩
  · rw [h1]; exact List.Pairwise.nil
  · exact apart_prsOf h1
theorem prs_apart {T : Tab} (h : TI T) : Apart (prs T) := by
  refine List.pairwise_append.2 ⟨apart_prsOf h.inow, h.old_apart, fun a ha b hb e => ?_⟩
  have h1 := mem_prsOf.1 ha
  have h2 := mem_prsOf.1 hb
  rw [<- e] at h2
  exact h.disj _ _ _ h1 h2
def datum (ps : List Pr) : DataW Ent := ps.foldl (fun D p => D.put (klit p.key) (.held p.en)) (.map [])
theorem datum_snoc (ps : List Pr) (p : Pr) : datum (ps ++ [p]) = (datum ps).put (klit p.key) (.held p.en) := by
  unfold datum
  rw [List.foldl_append]
  rfl
theorem datum_all (ps : List Pr) : Maps.Tidy (datum ps) /\ (∀ k, Maps.has (datum ps) (klit k) = true ↔ ∃ p ∈ ps, p.key = k) /\ (Apart ps -> Maps.size (datum ps) = ps.length /\ ∀ p ∈ ps, ∀ z, (datum ps).atKey (klit p.key) z = .held p.en) := by
  generalize hn : ps.length = n
  induction n generalizing ps with
  | zero =>
    obtain rfl := List.length_eq_zero_iff.1 hn
    refine ⟨Maps.tidy_empty, fun k => ?_, fun _ => ⟨rfl, by simp⟩⟩
    constructor
    · intro h; cases h
    · rintro ⟨p, hp, _⟩; cases hp
  | succ n ih =>
    have hne : ps ≠ [] := fun e => by rw [e] at hn; simp at hn
    have hps := List.dropLast_concat_getLast hne
    generalize ps.getLast hne = x at hps
    generalize ps.dropLast = qs at hps
    subst hps
    have hq : qs.length = n := by simp at hn; exact hn
    obtain ⟨h1, h2, h3⟩ := ih qs hq
    rw [datum_snoc]
    refine ⟨h1.put (klit_key _) _, fun k => ?_, fun ha => ?_⟩
    · by_cases hk : k = x.key
      · subst hk
        rw [Maps.has_put_same h1.isMap (klit_key _)]
        exact ⟨fun _ => ⟨x, by simp, rfl⟩, fun _ => rfl⟩
      · rw [Maps.has_put_other (klit_inj hk), h2 k]
        constructor
        · rintro ⟨p, hp, h⟩; exact ⟨p, by simp [hp], h⟩
        · rintro ⟨p, hp, h⟩
          rcases List.mem_append.1 hp with hp | hp
          · exact ⟨p, hp, h⟩
          · simp at hp; subst hp; exact absurd h.symm hk
    · obtain ⟨a1, _, a2⟩ := List.pairwise_append.1 ha
      obtain ⟨h4, h5⟩ := h3 a1
      have hno : Maps.has (datum qs) (klit x.key) = false := by
        rw [<- Bool.not_eq_true, h2]
        rintro ⟨p, hp, h⟩
        exact a2 p hp x (by simp) h
      refine ⟨?_, fun p hp z => ?_⟩
      · rw [Maps.size_put h1, hno, h4]
        try simp
      · rcases List.mem_append.1 hp with hp | hp
        · rw [Maps.atKey_put_other (klit_inj (a2 p hp x (by simp)))]
          exact h5 p hp z
        · simp at hp; subst hp
          exact Maps.atKey_put_same h1.isMap (klit_key _) _ _
def Asc (ps : List Pr) : Prop := ps.Pairwise (fun a b => ltS a.key b.key = true)
theorem pairs_sorted {ks : List ByteArray} {ps : List Pr} (ha : Apart ps) (hp : ks.Perm (ps.map Pr.key)) (hs : ks.Pairwise (fun a b => ltS b a = false)) :
    ∃ qs : List Pr, qs.Perm ps /\ Asc qs /\ qs.map Pr.key = ks := by
  induction ks generalizing ps with
  | nil =>
    have := hp.length_eq
    simp at this
    have := List.length_eq_zero_iff.1 this.symm
    subst this
    exact ⟨[], List.Perm.refl _, List.Pairwise.nil, rfl⟩
  | cons k ks ih =>
    obtain ⟨x, hx, rfl⟩ := List.mem_map.1 (hp.mem_iff.1 (List.mem_cons_self (a := k) (l := ks)))
    obtain ⟨l1, l2, rfl⟩ := List.append_of_mem hx
    have hmid : (l1 ++ x :: l2).Perm (x :: (l1 ++ l2)) := List.perm_middle
    have ha' : Apart (x :: (l1 ++ l2)) := (hmid.pairwise_iff (fun {_ _} hne => Ne.symm hne)).1 ha
    obtain ⟨c1, c2⟩ := List.pairwise_cons.1 ha'
    have hp' : ks.Perm ((l1 ++ l2).map Pr.key) := List.Perm.cons_inv (hp.trans (hmid.map Pr.key))
    obtain ⟨s1, s2⟩ := List.pairwise_cons.1 hs
    obtain ⟨qs, q1, q2, q3⟩ := ih c2 hp' s2
    refine ⟨x :: qs, (q1.cons x).trans hmid.symm, List.pairwise_cons.2 ⟨fun y hy => ?_, q2⟩, by rw [List.map_cons, q3]⟩
    have hy' := q1.mem_iff.1 hy
    have hk : y.key ∈ ks := by rw [<- q3]; exact List.mem_map_of_mem hy
    exact ltS_of_not (fun e => c1 y hy' e.symm) (s1 _ hk)
end Go.Proofs.YtbikkioipamlmaaGreatDoor.T16
namespace Go.Proofs.YtbikkioipamlmaaGreatDoor.T16
open Go.RowKit
theorem Tb.field {w : World} {tb : Nat} {vn vo : Value} {T : Tab} (h : Tb w tb vn vo T) (i : Nat) (v : Value) (T' : Tab) (h1 : (tabC T vn vo).setIfInBounds i v = tabC T' vn vo) (h2 : T'.now = T.now) (h3 : T'.old = T.old) :
    Tb (w.setCell ⟨tb, i, none⟩ v) tb vn vo T' /\ Fr (fun k => k = tb) w (w.setCell ⟨tb, i, none⟩ v) := by
  have hs : (w.setCell ⟨tb, i, none⟩ v).heap.size = w.heap.size := by simp [World.setCell]
  have hf : Fr (fun k => k = tb) w (w.setCell ⟨tb, i, none⟩ v) := ⟨rfl, rfl, rfl, by omega, fun k _ hne => Below.heap_setCell _ _ _ _ hne⟩
  exact ⟨⟨by rw [uB h.blk, h1], by rw [h2]; exact own_fr h.now hf (fun g hg e => by subst e; exact h.nn hg), by rw [h3]; exact own_fr h.old hf (fun g hg e => by subst e; exact h.no hg), h.ne, h.nn, h.no⟩, hf⟩
theorem Tb.setOld {w : World} {tb g cap : Nat} {vn : Value} {T : Tab} (h : Tb w tb vn (.slice (some ⟨g, 0, none⟩) T.old.length cap) T) (i : Nat) (p : Pl) :
    Tb (set7 w g i p) tb vn (.slice (some ⟨g, 0, none⟩) T.old.length cap) { T with old := T.old.set i p } /\ Fr (fun k => k = g) w (set7 w g i p) := by
  obtain ⟨o1, g1⟩ := own_set7 h.old i p
  have hf : Fr (fun k => k = g) w (set7 w g i p) := .of_grown g1 (by rintro k e; cases e; rfl)
  have hg : (Value.slice (some ⟨g, 0, none⟩) T.old.length cap).ownBlock = some g := rfl
  refine ⟨⟨(hf.block tb (lB h.blk) (fun e => h.no (by rw [hg, e]))).trans h.blk, own_fr h.now hf (fun j hj e => h.ne j hj (by rw [hg, e])), ?_, h.ne, h.nn, h.no⟩, hf⟩
  rw [List.length_set]; exact o1
theorem Tb.noOld {w : World} {tb : Nat} {vn vo : Value} {T : Tab} (h : Tb w tb vn vo T) :
    Tb (((w.setCell ⟨tb, 2, none⟩ (.int .i64 0)).setCell ⟨tb, 3, none⟩ (.slice none 0 0)).setCell ⟨tb, 4, none⟩ (.int .i64 0)) tb vn (.slice none 0 0) T.noOld /\
      Fr (fun k => k = tb) w (((w.setCell ⟨tb, 2, none⟩ (.int .i64 0)).setCell ⟨tb, 3, none⟩ (.slice none 0 0)).setCell ⟨tb, 4, none⟩ (.int .i64 0)) := by
  have hf : Fr (fun k => k = tb) w (((w.setCell ⟨tb, 2, none⟩ (.int .i64 0)).setCell ⟨tb, 3, none⟩ (.slice none 0 0)).setCell ⟨tb, 4, none⟩ (.int .i64 0)) :=
    ⟨rfl, rfl, rfl, by simp [World.setCell], fun k _ hne => by rw [Below.heap_setCell _ _ _ _ hne, Below.heap_setCell _ _ _ _ hne, Below.heap_setCell _ _ _ _ hne]⟩
  refine ⟨⟨?_, own_fr h.now hf (fun g hg e => by subst e; exact h.nn hg), ⟨rfl, .inl ⟨rfl, rfl⟩⟩, fun g hg e => by simp [Value.ownBlock] at e, h.nn, by simp [Value.ownBlock]⟩, hf⟩
  rw [uB (uB (uB h.blk _) _)]
  rfl
structure MoveR (w wr : World) (tb : Nat) (vn vo : Value) (T0 T : Tab) : Prop where
  tb' : Tb wr tb vn vo T
  ti : TI T
  ol : T.old.length = T0.old.length
  mv : T.oldLen + T.work = T0.oldLen
  w8 : T.work <= 8
  tot : T.nowLen + T.oldLen = T0.nowLen + T0.oldLen
  nb' : T.nb = T0.nb
  has : ∀ k e, Has T k e ↔ Has T0 k e
  fr : Fr (tfoot tb vn vo) w wr
structure MoveQ (w w' : World) (tb : Nat) (vn vo vo' : Value) (T T' : Tab) : Prop where
  tb' : Tb w' tb vn vo' T'
  ti : TI T'
  ol : T'.oldLen = T.oldLen - 8
  tot : T'.nowLen + T'.oldLen = T.nowLen + T.oldLen
  nb' : T'.nb = T.nb
  w8 : T'.work <= 8
  has : ∀ k e, Has T' k e ↔ Has T k e
  own : ∀ g, vo'.ownBlock = some g -> vo.ownBlock = some g
  fr : Fr (tfoot tb vn vo) w w'
theorem moveR_start {w : World} {tb : Nat} {vn vo : Value} {T : Tab} (h : Tb w tb vn vo T) (hI : TI T) : MoveR w (w.setCell ⟨tb, 7, none⟩ (.int .i64 0)) tb vn vo T { T with work := 0 } := by
  obtain ⟨h1, h2⟩ := h.field 7 (.int .i64 0) { T with work := 0 } rfl rfl rfl
  exact ⟨h1, ⟨hI.n3, hI.n30, hI.nlen, hI.inow, hI.snow, hI.cnow, hI.iold, hI.cold, hI.at0, hI.disj, hI.cap, hI.slack, hI.ks⟩, rfl, rfl, Nat.zero_le _, rfl, rfl, fun _ _ => Iff.rfl, h2.mono (fun k _ e => .inl e)⟩
theorem MoveR.drewN {w wr : World} {tb : Nat} {vn vo : Value} {T0 T : Tab} (h : MoveR w wr tb vn vo T0 T) (n : Nat) : MoveR w (wr.drewN n) tb vn vo T0 T :=
  ⟨h.tb'.below (below_drewN (Below.refl _ _) n), h.ti, h.ol, h.mv, h.w8, h.tot, h.nb', h.has, h.fr.drewN n⟩
theorem moveR_end {w wr : World} {tb : Nat} {vn vo : Value} {T0 T : Tab} (h : MoveR w wr tb vn vo T0 T) (h0 : 0 < T.oldLen) (h8 : 8 <= T.work) : MoveQ w wr tb vn vo vo T0 T := by
  have := h.mv
  have := h.w8
  exact ⟨h.tb', h.ti, by omega, h.tot, h.nb', h.w8, h.has, fun g hg => hg, h.fr⟩
theorem moveR_end0 {w wr : World} {tb : Nat} {vn vo : Value} {T0 T : Tab} (h : MoveR w wr tb vn vo T0 T) (h0 : T.oldLen = 0) :
    MoveQ w (((wr.setCell ⟨tb, 2, none⟩ (.int .i64 0)).setCell ⟨tb, 3, none⟩ (.slice none 0 0)).setCell ⟨tb, 4, none⟩ (.int .i64 0)) tb vn vo (.slice none 0 0) T0 T.noOld := by
  have hm := h.mv
  have h8 := h.w8
  obtain ⟨b1, b2⟩ := h.tb'.noOld
  obtain ⟨i1, i2⟩ := h.ti.noOld h0
  exact ⟨b1, i1, by show T.oldLen = _; omega, h.tot, h.nb', h8, fun k e => (i2 k e).trans (h.has k e), fun g hg => by simp [Value.ownBlock] at hg, h.fr.trans b2 (fun j e => .inl (.inl e))⟩
theorem moveR_skip {w wr : World} {tb : Nat} {vn vo : Value} {T0 T : Tab} {p : Pl} (h : MoveR w wr tb vn vo T0 T) (hp : T.old[T.at']? = some p) (h1 : p.st ≠ 1) : MoveR w (wr.setCell ⟨tb, 4, none⟩ (.int .i64 ((T.at' : Int) + 1))) tb vn vo T0 { T with at' := T.at' + 1 } := by
  obtain ⟨b1, b2⟩ := h.tb'.field 4 (.int .i64 ((T.at' : Int) + 1)) { T with at' := T.at' + 1 } (by unfold tabC; rw [show ((T.at' + 1 : Nat) : Int) = (T.at' : Int) + 1 from by omega]; rfl) rfl rfl
  have hne : T.old ≠ [] := fun e => by rw [e] at hp; simp at hp
  exact ⟨b1, h.ti.skip hne hp h1, h.ol, h.mv, h.w8, h.tot, h.nb', h.has, h.fr.trans b2 (fun j e => .inl (.inl e))⟩
theorem moveR_moved {w wr w3 w7 : World} {tb i : Nat} {vn vo : Value} {T0 T : Tab} {p : Pl} {b : Bool} (h : MoveR w wr tb vn vo T0 T) (hp : T.old[T.at']? = some p) (h1 : p.st = 1) (h8 : T.work < 8) (f : FindR T.now (homeN T.nb p.key) p.key i b) (hf3 : Fr (fun j => j = tb \/ vn.ownBlock = some j) wr w3)
    (ht : Tb w7 tb vn vo (T.moved i p)) (hf : Fr (tfoot tb vn vo) w3 w7) : MoveR w w7 tb vn vo T0 (T.moved i p) := by
  obtain ⟨_, i1, i2, i3⟩ := h.ti.moved hp h1 f
  have hm := h.mv
  have htot := h.tot
  have e1 : (T.moved i p).nowLen = T.nowLen + 1 := rfl
  have e2 : (T.moved i p).work = T.work + 1 := rfl
  refine ⟨ht, i1, ?_, by omega, by omega, by omega, h.nb', fun k e => (i3 k e).trans (h.has k e), (h.fr.trans hf3 (fun j hj => .inl (hj.imp id .inl))).trans hf (fun j hj => .inl hj)⟩
  show (T.old.set _ _).length = _
  rw [List.length_set]; exact h.ol
theorem TI.at_lt {T : Tab} (h : TI T) (h0 : 0 < T.oldLen) : T.at' < T.old.length := by
  rcases Nat.lt_or_ge T.at' T.old.length with h1 | h1
  · exact h1
  · exfalso
    have hc := h.cold
    have : usedN T.old = 0 := by
      unfold usedN
      rw [List.countP_eq_zero]
      intro p hp
      obtain ⟨i, hi, e⟩ := List.getElem_of_mem hp
      have := h.at0 i p (by omega) (by rw [List.getElem?_eq_getElem hi, e])
      simpa using this
    omega
theorem move23 (tb : Nat) (vn vo : Value) (T0 : Tab) (w : World) (h : Tb w tb vn vo T0) (hI : TI T0) :
    Calls prog 201 #[.pointer (some ⟨tb, 0, none⟩)] w fun e' w' => e' = .returned (.tuple #[]) /\ ∃ vo' T', MoveQ w w' tb vn vo vo' T0 T' := by
  have M0 := hid (moveR_start h hI)
  obtain ⟨⟨t0, t1, t2, t3, t4, t5, t6, t7⟩, tf⟩ := h.cells
  have LE := hid hI.len_le
  clear h hI
  go_enter Tryz.func201, Tryz.ntmps201
  go_wp2_with fail
  clear t0 t1 t2 t3 t4 t5 t6 t7 tf
  go_loopg [2] (T0.old.length - T0.at') (fun gk _ wr => ∃ T, T.old.length - T.at' = gk /\ MoveR w wr tb vn vo T0 T)
  case atStart => exact ⟨{ T0 with work := 0 }, rfl, M0.out⟩
  case round =>
    obtain ⟨T, hgk, hm⟩ := hrel
    clear M0
    have GK := hid hgk
    have M := hid hm
    have hnl : T.nowLen <= 1073741824 := by have := LE.out; have := hm.tot; omega
    have hol : T.oldLen <= 1073741824 := by have := LE.out; have := hm.tot; omega
    have hw8 := hm.w8
    obtain ⟨⟨t0, t1, t2, t3, t4, t5, t6, t7⟩, tf⟩ := hm.tb'.cells
    clear hgk hm
    by_cases h0 : T.oldLen = 0
    · have Q := hid (moveR_end0 M.out h0)
      rw [h0] at t5
      clear hol
      go_wp2_with fail
      go_end0
      exact ⟨rfl, _, _, Q.out⟩
    · have h0' : 0 < T.oldLen := by omega
      by_cases h8 : T.work = 8
      · have Q := hid (moveR_end M.out h0' (by omega))
        have hb1 : ((T.oldLen : Int) == 0) = false := by simp; omega
        clear h0
        go_wp2_with fail
        go_end0
        exact ⟨rfl, _, _, Q.out⟩
      · have h8' : T.work < 8 := by omega
        have hat := M.out.ti.at_lt h0'
        obtain ⟨p, hp⟩ : ∃ p, T.old[T.at']? = some p := ⟨_, List.getElem?_eq_getElem hat⟩
        obtain ⟨go, capo, hvo, hcap⟩ := own_slice7 M.out.tb'.old (by omega)
        subst hvo
        obtain ⟨⟨c0, c1, c2, c3, c4, c5, c6⟩, _⟩ := own_cells M.out.tb'.old T.at' p hp
        have HP := hid hp
        have hatI : (T.at' : Int) < T.old.length := by omega
        have hat0 : (0 : Int) <= (T.at' : Int) := by omega
        have holn : T.old.length <= 1073741824 := by
          obtain ⟨e, _, e2, _⟩ := M.out.ti.old_inv hp
          rw [e]; exact pow_le30 e2
        clear hp h0 h8
        by_cases hs : p.st = 1
        · have hsb : ((p.st : Int) == 1) = true := by simp [hs]
          have HS := hid hs
          clear hs t0 t1 t2
          go_wp2_with fail
          go_quiet (fail)
          go_wp2_with fail
          have M2 := hid (M.out.drewN nq)
          clear M t3 t4 t5 t6 t7 tf c0 c1 c2 c3 c4 c5 c6
          generalize wr.drewN nq = w2 at *
          obtain ⟨⟨c0, c1, c2, c3, c4, c5, c6⟩, _⟩ := own_cells M2.out.tb'.old T.at' p HP.out
          have PU := hid (put27 tb vn _ T p.key p.en w2.drew (M2.out.tb'.below (Below.refl _ _).drew) M2.out.ti.nlen (by have := M2.out.ti.n3; omega) M2.out.ti.n30 (M2.out.ti.ks p.key p.en (.inr ⟨_, p, HP.out, HS.out, rfl, rfl⟩)) (by omega) M2.out.ti.emp)
          go_region_with (go_at_call 205; (with_reducible refine PU.out.mono ?_); rintro e3 w3 ⟨rfl, i, b, fr3, b3, f3⟩)
          all_goals
            have FR3 := hid fr3
            have B3 := hid b3
            have F3 := hid ((Fr.of_below (S := fun j => j = tb \/ vn.ownBlock = some j) (Below.refl w2.heap.size w2).drew).trans f3 (fun j hj => .inl hj))
            have hbf := (M2.out.ti.moved HP.out HS.out fr3).1
            subst hbf
            clear fr3 b3 f3 c0 c1 c2 c3 c4 c5 c6 PU
            obtain ⟨⟨c0, c1, c2, c3, c4, c5, c6⟩, ⟨f0, f1, f2, f3, f4, f5, f6⟩⟩ := own_cells B3.out.old T.at' p HP.out
            have B4 := hid (Tb.setOld (T := T.put i false p.key p.en) B3.out T.at' pGone)
            go_upto_region 7 with fail
            obtain ⟨w4, hw4⟩ : ∃ w4, (((((((w3.setCell ⟨go, T.at' * 7, none⟩ (.int .i64 2)).setCell ⟨go, T.at' * 7 + 1, none⟩ (.string ⟨#[]⟩)).setCell ⟨go, T.at' * 7 + 2, none⟩ (.int .i64 0)).setCell ⟨go, T.at' * 7 + 3, none⟩ (.int .i64 0)).setCell ⟨go, T.at' * 7 + 4, none⟩ (.int .i64 0)).setCell ⟨go, T.at' * 7 + 5, none⟩ (.int .i64 0)).setCell ⟨go, T.at' * 7 + 6, none⟩ (.bool false)) = w4 := ⟨_, rfl⟩
            have hw4' : set7 w3 go T.at' pGone = w4 := hw4
            rw [hw4'] at B4
            rw [hw4]
            clear hw4 hw4' c0 c1 c2 c3 c4 c5 c6 f0 f1 f2 f3 f4 f5 f6
            have B5 := hid (B4.out.1.field 5 (.int .i64 ((T.oldLen : Int) - 1)) { (T.put i false p.key p.en) with old := T.old.set T.at' pGone, oldLen := T.oldLen - 1 } (by unfold tabC; rw [show ((T.oldLen - 1 : Nat) : Int) = (T.oldLen : Int) - 1 from by omega]; rfl) rfl rfl)
            obtain ⟨⟨_, _, _, _, _, t5, _, _⟩, tf⟩ := B4.out.1.cells
            have t5' : w4.cell? ⟨tb, 5, none⟩ = some (.int .i64 (T.oldLen : Int)) := t5
            clear t5
            go_upto_region 8 with fail
            obtain ⟨w5, hw5⟩ : ∃ w5, w4.setCell ⟨tb, 5, none⟩ (.int .i64 ((T.oldLen : Int) - 1)) = w5 := ⟨_, rfl⟩
            rw [hw5] at B5
            rw [hw5]
            clear hw5 t5' tf
            have B6 := hid (B5.out.1.field 7 (.int .i64 ((T.work : Int) + 1)) { (T.put i false p.key p.en) with old := T.old.set T.at' pGone, oldLen := T.oldLen - 1, work := T.work + 1 } (by unfold tabC; rw [show ((T.work + 1 : Nat) : Int) = (T.work : Int) + 1 from by omega]; rfl) rfl rfl)
            obtain ⟨⟨_, _, _, _, _, _, _, t7⟩, tf⟩ := B5.out.1.cells
            have t7' : w5.cell? ⟨tb, 7, none⟩ = some (.int .i64 (T.work : Int)) := t7
            clear t7
            go_upto_region 2 with fail
            obtain ⟨w6, hw6⟩ : ∃ w6, w5.setCell ⟨tb, 7, none⟩ (.int .i64 ((T.work : Int) + 1)) = w6 := ⟨_, rfl⟩
            rw [hw6] at B6
            rw [hw6]
            clear hw6 t7' tf
            have B7 := hid (B6.out.1.field 4 (.int .i64 ((T.at' : Int) + 1)) (T.moved i p) (by unfold tabC; show _ = tabC (T.moved i p) vn _; unfold tabC Tab.moved; rw [show ((T.at' + 1 : Nat) : Int) = (T.at' : Int) + 1 from by omega]; rfl) rfl rfl)
            obtain ⟨⟨_, _, _, _, t4, _, _, _⟩, tf⟩ := B6.out.1.cells
            have t4' : w6.cell? ⟨tb, 4, none⟩ = some (.int .i64 (T.at' : Int)) := t4
            clear t4
            go_wp2_with fail
            go_roundg (T.old.length - (T.at' + 1))
            case measure => have := GK.out; omega
            case rel => exact ⟨T.moved i p, by show (T.old.set _ _).length - (T.at' + 1) = _; rw [List.length_set], moveR_moved M2.out HP.out HS.out h8' FR3.out F3.out B7.out.1 (((B4.out.2.mono (T := tfoot tb vn (.slice (some ⟨go, 0, none⟩) T.old.length capo)) (fun j _ e => .inr (.inr (by rw [e]; rfl)))).trans B5.out.2 (fun j e => .inl (.inl e))).trans (B6.out.2.trans B7.out.2 (fun j e => .inl e)) (fun j e => .inl (.inl e)))⟩
        · have hsb : ((p.st : Int) == 1) = false := by simp; omega
          go_wp2_with fail
          go_quiet (fail)
          go_wp2_with fail
          have SK := hid (moveR_skip (M.out.drewN nq) HP.out hs)
          go_roundg (T.old.length - (T.at' + 1))
          case measure => have := GK.out; omega
          case rel => exact ⟨_, rfl, SK.out⟩
theorem placeinfo : (prog.info? 310).map (fun i => (i.zero, i.size, i.bytes)) = some (some (.agg #[.int .i64 0, .string ByteArray.empty, .int .i64 0, .int .i64 0, .int .i64 0, .int .i64 0, .bool false]), 7, 64) := by kernel_rfl
def emptyC : Array Value := #[.int .i64 0, .string ByteArray.empty, .int .i64 0, .int .i64 0, .int .i64 0, .int .i64 0, .bool false]
theorem placesC_empty (n : Nat) : placesC (List.replicate n pEmpty) = (madeCells emptyC (n * 7)).toList := by
  refine List.ext_getElem? fun j => ?_
  rcases Nat.lt_or_ge j (n * 7) with hj | hj
  · have hd : j = (j / 7) * 7 + j % 7 := by omega
    have hm : j % 7 < 7 := Nat.mod_lt _ (by omega)
    have hq : (List.replicate n pEmpty)[j / 7]? = some pEmpty := by rw [List.getElem?_replicate, if_pos (by omega)]
    have h1 : (placesC (List.replicate n pEmpty))[j]? = (plC pEmpty)[j % 7]? := by
      conv => lhs; rw [hd]
      exact placesC_at _ _ _ hq _ hm
    rw [h1]
    have hl : j < (madeCells emptyC (n * 7)).toList.length := by rw [Array.length_toList, size_madeCells]; exact hj
    rw [List.getElem?_eq_getElem hl]
    have hg : (madeCells emptyC (n * 7)).toList[j] = emptyC[j % 7]! := by
      rw [Array.getElem_toList]
      unfold madeCells
      simp [emptyC]
    rw [hg]
    have : j % 7 = 0 \/ j % 7 = 1 \/ j % 7 = 2 \/ j % 7 = 3 \/ j % 7 = 4 \/ j % 7 = 5 \/ j % 7 = 6 := by omega
    rcases this with e | e | e | e | e | e | e <;> rw [e] <;> rfl
  · rw [List.getElem?_eq_none (by rw [placesC_len, List.length_replicate]; exact hj), List.getElem?_eq_none (by rw [Array.length_toList, size_madeCells]; exact hj)]
theorem make_places (n : Nat) (hn : n <= 1073741824) (W : World) : ∃ W', (Instr.makeSlice 303 (.int .i64 (n : Int)) (.int .i64 (n : Int))).run prog W = .ok (.slice (some ⟨W.heap.size, 0, none⟩) n n) W' /\
    W'.ownsRow 0 310 7 (.slice (some ⟨W.heap.size, 0, none⟩) n n) n (placesC (List.replicate n pEmpty)) /\ Below W.heap.size W W' := by
  obtain ⟨i, hi, hz, hs, hb⟩ := info_parts placeinfo
  have hr := run_make (P := prog) W 303 310 i _ Tryz.underlying303 hi hz .i64 .i64 (n : Int) (n : Int) (by omega) (by omega) (by rw [hb]; omega) (by omega)
  rw [Int.toNat_natCast, hs] at hr
  refine ⟨_, hr, ⟨by rw [placesC_len, List.length_replicate], .inr ⟨W.heap.size, n, madeCells emptyC (n * 7), rfl, Nat.zero_le _, ?_, Nat.le_refl _, by unfold maxLen; omega, size_madeCells _ _, ?_⟩⟩, (Below.refl _ _).alloc (Nat.le_refl _) _⟩
  · show (W.heap.push _)[W.heap.size]? = _
    simp
    rfl
  · rw [placesC_empty, List.take_of_length_le (by rw [Array.length_toList, size_madeCells]; exact Nat.le_refl _)]
theorem newPlaces22 (b : Nat) (w : World) (h1 : 1 <= b) (hb : b <= 30) :
    Calls prog 200 #[.int .i64 (b : Int)] w fun e w' => ∃ g, e = .returned (.agg #[.int .i64 (b : Int), .slice (some ⟨g, 0, none⟩) (2 ^ b) (2 ^ b)]) /\ w'.ownsRow 0 310 7 (.slice (some ⟨g, 0, none⟩) (2 ^ b) (2 ^ b)) (2 ^ b) (placesC (List.replicate (2 ^ b) pEmpty)) /\ Below w.heap.size w w' /\ w.heap.size <= g := by
  have hle := pow_le30 hb
  obtain ⟨n, hn⟩ : ∃ n, 2 ^ b = n := ⟨_, rfl⟩
  have hw : wrap64 ((2 : Int) ^ b) = (n : Int) := by
    rw [← hn, IntWalk.wrap64_in _ (by have : ((2 : Int) ^ b) = ((2 ^ b : Nat) : Int) := by simp
                                      rw [this]; constructor <;> omega)]
    simp
  rw [hn] at hle ⊢
  clear hn
  have MK := make_places n hle (w.alloc (.cells #[.int .i64 0, .slice none 0 0] 305))
  rw [show (w.alloc (.cells #[.int .i64 0, .slice none 0 0] 305)).heap.size = w.heap.size + 1 by simp] at MK
  obtain ⟨W', hm, hown, hbel⟩ := MK
  have q0 : W'.heap[w.heap.size]? = some (.cells #[.int .i64 0, .slice none 0 0] 305 (0, 0)) := by
    rw [hbel.block w.heap.size (by omega)]
    show (w.heap.push _)[w.heap.size]? = _
    simp
  have c0 := qB (i := 0) q0; have c1 := qB (i := 1) q0
  have f0 := zB (i := 0) q0; have f1 := zB (i := 1) q0
  simp only [List.getElem?_toArray, List.getElem?_cons_zero, List.getElem?_cons_succ] at c0 c1
  have Q0 := hid q0
  have OWN := hid hown
  have BEL := hid hbel
  clear q0 hown hbel
  go_enter Tryz.func200, Tryz.ntmps200
  go_wp2_with fail
  have hq := uB (i := 1) (uB (i := 0) Q0.out (.int .i64 (b : Int))) (.slice (some ⟨w.heap.size + 1, 0, none⟩) n n)
  have r0 : ((W'.setCell ⟨w.heap.size, 0, none⟩ (.int .i64 (b : Int))).setCell ⟨w.heap.size, 1, none⟩ (.slice (some ⟨w.heap.size + 1, 0, none⟩) n n)).cell? ⟨w.heap.size, 0, none⟩ = some (.int .i64 (b : Int)) := by rw [qB (i := 0) hq]; rfl
  have r1 : ((W'.setCell ⟨w.heap.size, 0, none⟩ (.int .i64 (b : Int))).setCell ⟨w.heap.size, 1, none⟩ (.slice (some ⟨w.heap.size + 1, 0, none⟩) n n)).cell? ⟨w.heap.size, 1, none⟩ = some (.slice (some ⟨w.heap.size + 1, 0, none⟩) n n) := by rw [qB (i := 1) hq]; rfl
  refine bodyPost_ret (v := .agg #[.int .i64 (b : Int), .slice (some ⟨w.heap.size + 1, 0, none⟩) n n]) (by simp [results, Tryz.results200, go_sem, r0, r1]; try rfl) rfl ?_
  refine ⟨_, rfl, own_same OWN.out (fun g hg => ?_), ?_, by omega⟩
  · simp [Value.ownBlock] at hg
    subst hg
    rw [Below.heap_setCell _ _ _ _ (by show w.heap.size + 1 ≠ w.heap.size; omega), Below.heap_setCell _ _ _ _ (by show w.heap.size + 1 ≠ w.heap.size; omega)]
  · have h1 : Below w.heap.size w W' := ((Below.refl w.heap.size w).alloc (Nat.le_refl _) _).trans (BEL.out.mono (by omega))
    exact (h1.setCell (by simp) _).setCell (by simp) _
def tab0 : Tab := ⟨3, List.replicate 8 pEmpty, 0, [], 0, 0, 0, 0⟩
theorem none_new (n : Nat) (k : ByteArray) (e : Ent) : ¬ HasK (List.replicate n pEmpty) k e := by
  rintro ⟨i, p, hp, h1, _⟩
  rw [List.getElem?_replicate] at hp
  split at hp
  · cases hp; simp [pEmpty] at h1
  · cases hp
theorem inv_new (b : Nat) (h1 : 1 <= b) (hb : b <= 30) : Inv (homeN b) (List.replicate (2 ^ b) pEmpty) := by
  have hno : ∀ (i : Nat) (p : Pl), (List.replicate (2 ^ b) pEmpty)[i]? = some p -> p.st ≠ 1 := fun i p hp h => none_new _ p.key p.en ⟨i, p, hp, h, rfl, rfl⟩
  exact ⟨fun k => by rw [List.length_replicate]; exact (homeN_lt k b h1 hb).1, fun i p hp h => absurd h (hno i p hp), fun i j p q hp _ h => absurd h (hno i p hp)⟩
theorem used_new (n : Nat) : usedN (List.replicate n pEmpty) = 0 := by
  unfold usedN
  rw [List.countP_eq_zero]
  intro p hp
  rw [(List.mem_replicate.1 hp).2]
  simp [pEmpty]
theorem none_nil (k : ByteArray) (e : Ent) : ¬ HasK [] k e := fun ⟨i, p, hp, _⟩ => by simp at hp
theorem tab0_ok : TI tab0 := by
  refine ⟨Nat.le_refl _, by decide, rfl, inv_new 3 (by omega) (by omega), fun p hp => ?_, used_new 8, .inl ⟨rfl, rfl⟩, rfl, fun i p hi => ?_, fun k e e' h => absurd h (none_new 8 k e), by decide, by decide, fun k e h => ?_⟩
  · rw [(List.mem_replicate.1 hp).2]; exact .inl rfl
  · exact absurd hi (Nat.not_lt_zero _)
  · rcases h with h | h
    · exact absurd h (none_new 8 k e)
    · exact absurd h (none_nil k e)
theorem new_end {w w1 : World} {g : Nat} (hown : w1.ownsRow 0 310 7 (.slice (some ⟨g, 0, none⟩) 8 8) 8 (placesC (List.replicate 8 pEmpty))) (hb : Below w.heap.size w w1) (hg : w.heap.size <= g) :
    ∃ tb vn T, Ending.returned (.pointer (some ⟨w1.heap.size, 0, none⟩)) = .returned (.pointer (some ⟨tb, 0, none⟩)) /\ Tb (w1.alloc (.cells #[.int .i64 3, .slice (some ⟨g, 0, none⟩) 8 8, .int .i64 0, .slice none 0 0, .int .i64 0, .int .i64 0, .int .i64 0, .int .i64 0] 307)) tb vn (.slice none 0 0) T /\
      TI T /\ T.nb = 3 /\ T.nowLen = 0 /\ T.oldLen = 0 /\ T.work = 0 /\ (∀ k e, ¬ Has T k e) /\ Fr (fun _ => False) w (w1.alloc (.cells #[.int .i64 3, .slice (some ⟨g, 0, none⟩) 8 8, .int .i64 0, .slice none 0 0, .int .i64 0, .int .i64 0, .int .i64 0, .int .i64 0] 307)) /\
      ∀ k, tfoot tb vn (.slice none 0 0) k -> w.heap.size <= k := by
  have hgl := (hown.lt g rfl).2
  have hs := hb.size
  refine ⟨w1.heap.size, .slice (some ⟨g, 0, none⟩) 8 8, tab0, rfl, ⟨?_, hown.alloc _, ⟨rfl, .inl ⟨rfl, rfl⟩⟩, fun j _ e => by simp [Value.ownBlock] at e, by simp [Value.ownBlock]; omega, by simp [Value.ownBlock]⟩, tab0_ok, rfl, rfl, rfl, rfl, fun k e h => ?_, (Fr.of_below hb).alloc _, ?_⟩
  · show (w1.heap.push _)[w1.heap.size]? = _
    simp
    rfl
  · rcases h with h | h
    · exact none_new 8 k e h
    · exact none_nil k e h
  · rintro k (rfl | h | h)
    · exact hs
    · simp [Value.ownBlock] at h; omega
    · simp [Value.ownBlock] at h
theorem new8 (w : World) : Calls prog 131 #[] w fun e w' => ∃ tb vn T, e = .returned (.pointer (some ⟨tb, 0, none⟩)) /\ Tb w' tb vn (.slice none 0 0) T /\ TI T /\ T.nb = 3 /\ T.nowLen = 0 /\ T.oldLen = 0 /\ T.work = 0 /\ (∀ k e, ¬ Has T k e) /\ Fr (fun _ => False) w w' /\ ∀ k, tfoot tb vn (.slice none 0 0) k -> w.heap.size <= k := by
  have N3 := newPlaces22 3 w (by omega) (by omega)
  rw [show ((3 : Nat) : Int) = 3 from rfl, show (2 ^ 3 : Nat) = 8 from rfl] at N3
  have HN := hid N3
  clear N3
  go_enter Tryz.func131, Tryz.ntmps131
  go_wp2_with fail
  with_reducible refine HN.out.mono ?_
  rintro e w1 ⟨g, rfl, hown, hbel, hg⟩
  have OWN := hid hown
  have BEL := hid hbel
  clear hown hbel
  go_wp2_with fail
  go_ret
  exact new_end OWN.out BEL.out hg
structure ForgQ (w w' : World) (tb : Nat) (vn vo : Value) (T T' : Tab) (k : ByteArray) (b : Bool) : Prop where
  tb' : Tb w' tb vn vo T'
  ti : TI T'
  now : T'.now = T.now
  nl : T'.nowLen = T.nowLen
  nb' : T'.nb = T.nb
  wk : T'.work = T.work
  ol : T'.oldLen + (if b = true then 1 else 0) = T.oldLen
  old : ∀ k' e, HasK T'.old k' e ↔ k' ≠ k /\ HasK T.old k' e
  hit : b = true ↔ ∃ e, HasK T.old k e
  fr : Fr (tfoot tb vn vo) w w'
def ForgE (w : World) (tb : Nat) (vn vo : Value) (T : Tab) (k : ByteArray) (e' : Ending) (w' : World) : Prop := ∃ b T', e' = .returned (.bool b) /\ ForgQ w w' tb vn vo T T' k b
theorem forg_none {w : World} {tb : Nat} {vn vo : Value} {T : Tab} {k : ByteArray} (h : Tb w tb vn vo T) (hI : TI T) (hno : ∀ e, ¬ HasK T.old k e) {w' : World} (hb : Below w.heap.size w w') : ForgQ w w' tb vn vo T T k false :=
  ⟨h.below hb, hI, rfl, rfl, rfl, rfl, rfl, fun k' e => ⟨fun h => ⟨fun e' => by subst e'; exact hno e h, h⟩, fun h => h.2⟩, ⟨(fun h => by cases h), fun ⟨e, h⟩ => absurd h (hno e)⟩, .of_below hb⟩
theorem forg_hit {w w2 w4 : World} {tb : Nat} {vn vo : Value} {T : Tab} {k : ByteArray} {p : Pl} {i : Nat} (hI : TI T) (hp : T.old[i]? = some p) (h1 : p.st = 1) (hk : p.key = k) (ht : Tb w4 tb vn vo (T.goneAt i)) (hb : Below w.heap.size w w2) (hf : Fr (tfoot tb vn vo) w2 w4) : ForgQ w w4 tb vn vo T (T.goneAt i) k true := by
  obtain ⟨g1, g2, g3⟩ := hI.gone hp h1
  subst hk
  exact ⟨ht, g1, rfl, rfl, rfl, rfl, g2, g3, ⟨fun _ => ⟨p.en, i, p, hp, h1, rfl, rfl⟩, fun _ => rfl⟩, (Fr.of_below (S := tfoot tb vn vo) hb).trans hf (fun j h => .inl h)⟩
theorem forget24 (tb : Nat) (vn vo : Value) (T : Tab) (k : ByteArray) (w : World) (hk : k.size <= 9223372036854775807) (h : Tb w tb vn vo T) (hI : TI T) :
    Calls prog 202 #[.pointer (some ⟨tb, 0, none⟩), .string k] w (ForgE w tb vn vo T k) := by
  obtain ⟨⟨t0, t1, t2, t3, t4, t5, t6, t7⟩, tf⟩ := h.cells
  have LE := hI.len_le
  have HT := hid h
  have HI := hid hI
  clear h hI t0 t1 t4 t6 t7
  by_cases h0 : T.oldLen = 0
  · have Q := hid (forg_none (k := k) HT.out HI.out (fun e => used_zero (HI.out.cold.trans h0) k e) (Below.refl w.heap.size w))
    rw [h0] at t5
    go_enter Tryz.func202, Tryz.ntmps202
    go_wp2_with fail
    go_ret
    exact ⟨false, T, rfl, Q.out⟩
  · have hb0 : ((T.oldLen : Int) == 0) = false := by simp; omega
    have hat := HI.out.at_lt (by omega)
    obtain ⟨pp, hpp⟩ : ∃ p, T.old[T.at']? = some p := ⟨_, List.getElem?_eq_getElem hat⟩
    obtain ⟨o1, o2, o3, o4, o5⟩ := HI.out.old_inv hpp
    have hle := pow_le30 o3
    rw [<- o1] at hle
    obtain ⟨go, capo, hvo, hcap⟩ := own_slice7 HT.out.old (by omega)
    subst hvo
    obtain ⟨_, _, hvs, hv, _, _, _, _, _⟩ := ownsRow_vals HT.out.old
    cases hvs
    have FI := hid (find25 T.old.length T.ob capo (some ⟨go, 0, none⟩) T.old k w rfl o1 o2 o3 hk hv o5)
    have OI := hid o4
    clear o1 o4 o5 hv hpp h0
    go_enter Tryz.func202, Tryz.ntmps202
    go_wp2_with fail
    with_reducible refine FI.out.mono ?_
    rintro e' w2 ⟨i, b, rfl, hfr, hb2⟩
    have T2 := hid (HT.out.below hb2)
    have B2 := hid hb2
    have FR := hid hfr
    clear hb2 hfr t2 t3 t5 tf
    cases b with
    | false =>
      have Q := hid (forg_none (k := k) HT.out HI.out (fun e => find_none OI.out FR.out e) B2.out)
      go_wp2_with fail
      go_ret
      exact ⟨false, T, rfl, Q.out⟩
    | true =>
      obtain ⟨p, hp, hp1, hpk⟩ := find_true FR.out
      have hil := (List.getElem?_eq_some_iff.1 hp).1
      have hii : (i : Int) < T.old.length := by omega
      obtain ⟨⟨c0, c1, c2, c3, c4, c5, c6⟩, ⟨f0, f1, f2, f3, f4, f5, f6⟩⟩ := own_cells T2.out.old i p hp
      obtain ⟨⟨_, _, t2, t3, _, _, _, _⟩, tf⟩ := T2.out.cells
      have HP := hid hp; have HP1 := hid hp1; have HPK := hid hpk
      have B4 := hid (T2.out.setOld i pGone)
      clear hp hp1 hpk
      go_upto_region 6 with fail
      obtain ⟨w4, hw4⟩ : ∃ w4, (((((((w2.setCell ⟨go, i * 7, none⟩ (.int .i64 2)).setCell ⟨go, i * 7 + 1, none⟩ (.string ⟨#[]⟩)).setCell ⟨go, i * 7 + 2, none⟩ (.int .i64 0)).setCell ⟨go, i * 7 + 3, none⟩ (.int .i64 0)).setCell ⟨go, i * 7 + 4, none⟩ (.int .i64 0)).setCell ⟨go, i * 7 + 5, none⟩ (.int .i64 0)).setCell ⟨go, i * 7 + 6, none⟩ (.bool false)) = w4 := ⟨_, rfl⟩
      have hw4' : set7 w2 go i pGone = w4 := hw4
      rw [hw4'] at B4
      rw [hw4]
      clear hw4 hw4' c0 c1 c2 c3 c4 c5 c6 f0 f1 f2 f3 f4 f5 f6 t2 t3 tf
      have B5 := hid (B4.out.1.field 5 (.int .i64 ((T.oldLen : Int) - 1)) (T.goneAt i) (by unfold tabC; show _ = tabC (T.goneAt i) vn _; unfold tabC Tab.goneAt; rw [show ((T.oldLen - 1 : Nat) : Int) = (T.oldLen : Int) - 1 from by have := HI.out.gone HP.out HP1.out; omega]; rfl) rfl rfl)
      obtain ⟨⟨_, _, _, _, _, t5, _, _⟩, tf⟩ := B4.out.1.cells
      have t5' : w4.cell? ⟨tb, 5, none⟩ = some (.int .i64 (T.oldLen : Int)) := t5
      clear t5
      go_wp2_with fail
      go_ret
      exact ⟨true, _, rfl, forg_hit HI.out HP.out HP1.out HPK.out B5.out.1 B2.out ((B4.out.2.mono (T := tfoot tb vn (.slice (some ⟨go, 0, none⟩) T.old.length capo)) (fun j _ e => .inr (.inr (by rw [e]; rfl)))).trans B5.out.2 (fun j e => .inl (.inl e)))⟩
theorem len15 (tb : Nat) (vn vo : Value) (T : Tab) (w : World) (h : Tb w tb vn vo T) (hle : T.nowLen + T.oldLen <= 1073741824) :
    Calls prog 276 #[.pointer (some ⟨tb, 0, none⟩)] w fun e' w' => e' = .returned (.int .i64 ((T.nowLen + T.oldLen : Nat) : Int)) /\ ∃ m, w' = w.drewN m := by
  obtain ⟨⟨_, _, _, _, _, t5, t6, _⟩, _⟩ := h.cells
  clear h
  rw [show ((T.nowLen + T.oldLen : Nat) : Int) = (T.nowLen : Int) + (T.oldLen : Int) from by omega]
  go_enter Tryz.func276, Tryz.ntmps276
  go_wp2_with fail
  go_quiet (fail)
  go_wp2_with fail
  go_ret
  exact ⟨rfl, nq, rfl⟩
def Tab.grown (T : Tab) : Tab := { nb := T.nb + 1, now := List.replicate (2 ^ (T.nb + 1)) pEmpty, ob := T.nb, old := T.now, at' := 0, oldLen := T.nowLen, nowLen := 0, work := T.work }
structure GrowI (T T' : Tab) : Prop where
  ti : TI T'
  tot : T'.nowLen + T'.oldLen = T.nowLen + T.oldLen
  wk : T'.work = T.work
  has : ∀ k e, Has T' k e ↔ Has T k e
  room : T'.oldLen + 8 * (T'.nowLen + T'.oldLen) + 8 <= 6 * 2 ^ T'.nb
  cap1 : 4 * (T'.nowLen + T'.oldLen) + 4 <= 3 * 2 ^ T'.nb
def Ready (T : Tab) : Prop := T.oldLen = 0 \/ T.oldLen + 8 * (T.nowLen + T.oldLen) + 8 <= 6 * 2 ^ T.nb
theorem grow_stay {T : Tab} (hI : TI T) (hr : Ready T) (h : 4 * (T.nowLen + T.oldLen + 1) <= 3 * 2 ^ T.nb) : GrowI T T := by
  refine ⟨hI, rfl, rfl, fun _ _ => Iff.rfl, ?_, by omega⟩
  rcases hr with h0 | h0
  · omega
  · exact h0
theorem grow_grown {T : Tab} (hI : TI T) (hr : Ready T) (hs : T.nowLen + T.oldLen <= 1000000) (h : 3 * 2 ^ T.nb < 4 * (T.nowLen + T.oldLen + 1)) : GrowI T T.grown /\ T.nb + 1 <= 30 := by
  have h0 : T.oldLen = 0 := by
    rcases hr with h0 | h0
    · exact h0
    · omega
  have hn : T.nb + 1 <= 30 := by
    rcases Nat.lt_or_ge T.nb 29 with h1 | h1
    · omega
    · have : 2 ^ 29 <= 2 ^ T.nb := Nat.pow_le_pow_right (by omega) h1
      omega
  have h8 : 8 <= 2 ^ T.nb := (Nat.pow_le_pow_right (by omega) hI.n3 : 2 ^ 3 <= 2 ^ T.nb)
  have hp : 2 ^ (T.nb + 1) = 2 * 2 ^ T.nb := by rw [Nat.pow_succ]; omega
  have hz := used_zero (hI.cold.trans h0)
  have hcap := hI.cap
  have e1 : T.grown.nb = T.nb + 1 := rfl
  have e2 : T.grown.oldLen = T.nowLen := rfl
  have e3 : T.grown.nowLen = 0 := rfl
  have hhas : ∀ k e, Has T.grown k e ↔ Has T k e := fun k e =>
    ⟨fun hh => hh.elim (fun hh => absurd hh (none_new _ k e)) (fun hh => .inl hh), fun hh => hh.elim (fun hh => .inr hh) (fun hh => absurd hh (hz k e))⟩
  refine ⟨⟨⟨by have := hI.n3; rw [e1]; omega, hn, by show (List.replicate _ _).length = _; rw [List.length_replicate]; rfl, inv_new _ (by omega) hn, fun p hp => ?_, used_new _, .inr ⟨hI.nlen, by show 1 <= T.nb; have := hI.n3; omega, by show T.nb <= 30; omega, hI.inow, hI.emp⟩, hI.cnow, fun i p hi => absurd hi (Nat.not_lt_zero _), fun k e e' hh => absurd hh (none_new _ k e), ?_, ?_, fun k e hh => ?_⟩, by rw [e2, e3, h0]; omega, rfl, hhas, ?_, ?_⟩, hn⟩
  · rw [(List.mem_replicate.1 hp).2]; exact .inl rfl
  · rw [e1, e2, e3, hp]; omega
  · rw [e1, e2, e3, hp]; omega
  · exact hI.ks k e ((hhas k e).1 hh)
  · rw [e1, e2, e3, hp]; omega
  · rw [e1, e2, e3, hp]; omega
structure GrowQ (w w' : World) (tb : Nat) (vn vo vn' vo' : Value) (T T' : Tab) : Prop where
  tb' : Tb w' tb vn' vo' T'
  gi : GrowI T T'
  own : ∀ j, tfoot tb vn' vo' j -> tfoot tb vn vo j \/ w.heap.size <= j
  fr : Fr (fun k => k = tb) w w'
theorem grow_end {w w1 w2 : World} {tb g n : Nat} {vn vo : Value} {T : Tab} (h : Tb w tb vn vo T) (hb1 : Fr (fun k => k = tb) w w1) (h1 : w1.heap[tb]? = some (.cells #[.int .i64 (T.nb : Int), vn, .int .i64 (T.nb : Int), vn, .int .i64 0, .int .i64 (T.nowLen : Int), .int .i64 (T.nowLen : Int), .int .i64 (T.work : Int)] 307 (0, 0))) (hg : w1.heap.size <= g)
    (hb2 : Below w1.heap.size w1 w2) (hn : n = 2 ^ (T.nb + 1)) (hown : w2.ownsRow 0 310 7 (.slice (some ⟨g, 0, none⟩) n n) n (placesC (List.replicate n pEmpty))) (hI : GrowI T T.grown) :
    GrowQ w ((((w2.setCell ⟨tb, 0, none⟩ (.int .i64 ((T.nb : Int) + 1))).setCell ⟨tb, 1, none⟩ (.slice (some ⟨g, 0, none⟩) n n))).setCell ⟨tb, 6, none⟩ (.int .i64 0)) tb vn vo (.slice (some ⟨g, 0, none⟩) n n) vn T T.grown := by
  have hlt := lB h.blk
  have hs := hb1.size
  have hf3 : Fr (fun k => k = tb) w2 ((((w2.setCell ⟨tb, 0, none⟩ (.int .i64 ((T.nb : Int) + 1))).setCell ⟨tb, 1, none⟩ (.slice (some ⟨g, 0, none⟩) n n))).setCell ⟨tb, 6, none⟩ (.int .i64 0)) :=
    ⟨rfl, rfl, rfl, by simp [World.setCell], fun k _ hne => by rw [Below.heap_setCell _ _ _ _ hne, Below.heap_setCell _ _ _ _ hne, Below.heap_setCell _ _ _ _ hne]⟩
  have hf12 : Fr (fun k => k = tb) w w2 := hb1.trans (.of_below (S := fun _ => False) hb2) (fun _ f => f.elim)
  have hnow2 : w2.ownsRow 0 310 7 vn T.now.length (placesC T.now) := own_fr h.now hf12 (fun g hg e => by subst e; exact h.nn hg)
  refine ⟨⟨?_, ?_, ?_, ?_, ?_, h.nn⟩, hI, ?_, hf12.trans hf3 (fun j hj => .inl hj)⟩
  · have q : w2.heap[tb]? = _ := (hb2.block tb (by omega)).trans h1
    rw [uB (uB (uB q _) _)]
    show _ = some (Obj.cells (tabC T.grown _ _) _ _)
    unfold tabC Tab.grown
    rw [show ((T.nb + 1 : Nat) : Int) = (T.nb : Int) + 1 from by omega]
    rfl
  · show World.ownsRow _ _ _ _ _ (List.replicate (2 ^ (T.nb + 1)) pEmpty).length _
    rw [List.length_replicate, <- hn]
    refine own_fr ?_ hf3 (fun g' hg' e => by simp [Value.ownBlock] at hg'; omega)
    show World.ownsRow _ _ _ _ _ _ (placesC (List.replicate (2 ^ (T.nb + 1)) pEmpty))
    rw [<- hn]; exact hown
  · exact own_fr hnow2 hf3 (fun g hg e => by subst e; exact h.nn hg)
  · intro g' hg' e
    simp [Value.ownBlock] at hg'
    have := (h.now.lt g' e).2
    omega
  · simp [Value.ownBlock]; omega
  · rintro j (rfl | e | e)
    · exact .inl (.inl rfl)
    · simp [Value.ownBlock] at e; exact .inr (by omega)
    · exact .inl (.inr (.inl e))
theorem grow26 (tb : Nat) (vn vo : Value) (T : Tab) (w : World) (h : Tb w tb vn vo T) (hI : TI T) (hr : Ready T) (hs : T.nowLen + T.oldLen <= 1000000) :
    Calls prog 204 #[.pointer (some ⟨tb, 0, none⟩)] w fun e' w' => e' = .returned (.tuple #[]) /\ ∃ vn' vo' T', GrowQ w w' tb vn vo vn' vo' T T' := by
  obtain ⟨g, cap, rfl, hcap⟩ := own_slice7 h.now (by rw [hI.nlen]; exact Nat.pow_pos (by omega))
  obtain ⟨⟨t0, t1, t2, t3, t4, t5, t6, t7⟩, tf⟩ := h.cells
  have LN := hid (fun n => len15 tb _ _ T (w.drewN n) (h.below (below_drewN (Below.refl _ _) n)) (by omega))
  have HT := hid h
  have HI := hid hI
  have NL := hid hI.nlen
  have hle := pow_le30 hI.n30
  have hn30 := hI.n30
  have hn3 := hI.n3
  have F0 := tf 0; have F1 := tf 1; have F2 := tf 2; have F3 := tf 3; have F4 := tf 4; have F5 := tf 5; have F6 := tf 6
  by_cases hg : 4 * (T.nowLen + T.oldLen + 1) <= 3 * 2 ^ T.nb
  · have Q := hid (grow_stay hI hr hg)
    have hb : decide (4 * (((T.nowLen + T.oldLen : Nat) : Int) + 1) > 3 * (T.now.length : Int)) = false := by
      rw [decide_eq_false_iff_not, NL.out]; omega
    rw [<- NL.out] at hle
    have HTT : ((T.nowLen + T.oldLen : Nat) : Int) <= 1000000 := by omega
    have hnl : T.now.length <= 1073741824 := hle
    generalize hm : ((T.nowLen + T.oldLen : Nat) : Int) = m at *
    have hm0 : 0 <= m := by omega
    clear hg h hI hr hle hs
    go_enter Tryz.func204, Tryz.ntmps204
    go_wp2_with fail
    go_quiet ((go_at_call 276; exact Calls.quiet_of (LN.out _)))
    go_wp2_with fail
    go_end0
    exact ⟨rfl, _, _, T, HT.out.below (below_drewN (Below.refl _ _) _), Q.out, fun j hj => .inl hj, Fr.of_below (below_drewN (Below.refl _ _) _)⟩
  · obtain ⟨hgi, hnb⟩ := grow_grown hI hr hs (by omega)
    have Q := hid hgi
    have hb : decide (4 * (((T.nowLen + T.oldLen : Nat) : Int) + 1) > 3 * (T.now.length : Int)) = true := by
      rw [decide_eq_true_iff, NL.out]; omega
    rw [<- NL.out] at hle
    have HTT : ((T.nowLen + T.oldLen : Nat) : Int) <= 1000000 := by omega
    have hnl : T.now.length <= 1073741824 := hle
    have NP := hid (fun W => newPlaces22 (T.nb + 1) W (by omega) hnb)
    generalize hm : ((T.nowLen + T.oldLen : Nat) : Int) = m at *
    have hm0 : 0 <= m := by omega
    clear hg h hI hr hle hs
    go_enter Tryz.func204, Tryz.ntmps204
    go_wp2_with fail
    go_quiet ((go_at_call 276; exact Calls.quiet_of (LN.out _)))
    go_upto_region 1 with fail
    have H1 := hid (HT.out.below (below_drewN (Below.refl _ _) nq))
    have B1 := hid (Fr.of_below (S := fun k => k = tb) (below_drewN (Below.refl w.heap.size w) nq))
    generalize w.drewN nq = w1 at *
    obtain ⟨⟨t0, t1, t2, t3, t4, t5, t6, t7⟩, tf⟩ := H1.out.cells
    have F0 := tf 0; have F1 := tf 1; have F2 := tf 2; have F3 := tf 3; have F4 := tf 4; have F5 := tf 5; have F6 := tf 6
    go_region
    obtain ⟨w2, hw2⟩ : ∃ w2, ((((w1.setCell ⟨tb, 2, none⟩ (.int .i64 (T.nb : Int))).setCell ⟨tb, 3, none⟩ (.slice (some ⟨g, 0, none⟩) T.now.length cap)).setCell ⟨tb, 5, none⟩ (.int .i64 (T.nowLen : Int))).setCell ⟨tb, 4, none⟩ (.int .i64 0)).drew = w2 := ⟨_, rfl⟩
    have hq : w2.heap[tb]? = some (.cells #[.int .i64 (T.nb : Int), .slice (some ⟨g, 0, none⟩) T.now.length cap, .int .i64 (T.nb : Int), .slice (some ⟨g, 0, none⟩) T.now.length cap, .int .i64 0, .int .i64 (T.nowLen : Int), .int .i64 (T.nowLen : Int), .int .i64 (T.work : Int)] 307 (0, 0)) := by
      rw [<- hw2]
      exact uB (uB (uB (uB H1.out.blk _) _) _) _
    have B2 := hid (B1.out.trans (T := fun k => k = tb) (c := w2) (by
      rw [<- hw2]
      exact Fr.drew ⟨rfl, rfl, rfl, by simp [World.setCell], fun k _ hne => by rw [Below.heap_setCell _ _ _ _ hne, Below.heap_setCell _ _ _ _ hne, Below.heap_setCell _ _ _ _ hne, Below.heap_setCell _ _ _ _ hne]⟩) (fun j hj => .inl hj))
    rw [hw2]
    clear hw2 t0 t1 t2 t3 t4 t5 t6 t7 tf F0 F1 F2 F3 F4 F5 F6 B1 H1
    have c0 := qB (i := 2) hq
    simp only [List.getElem?_toArray, List.getElem?_cons_zero, List.getElem?_cons_succ] at c0
    have HQ := hid hq
    clear hq
    have NPW := hid (NP.out w2)
    rw [show ((T.nb + 1 : Nat) : Int) = (T.nb : Int) + 1 from by omega] at NPW
    go_wp2_with fail
    with_reducible refine NPW.out.mono ?_
    rintro e' w3 ⟨g3, rfl, hown, hb3, hg3⟩
    have hlt := lB HQ.out
    have hs3 := hb3.size
    have q3 := (hb3.block tb hlt).trans HQ.out
    have F0 := zB (i := 0) q3; have F1 := zB (i := 1) q3; have F6 := zB (i := 6) q3
    have d0 := qB (i := 0) q3; have d1 := qB (i := 1) q3; have d6 := qB (i := 6) q3
    simp only [List.getElem?_toArray, List.getElem?_cons_zero, List.getElem?_cons_succ] at d0 d1 d6
    clear t0 t1 t2 t3 t4 t5 t6 t7 tf F2 F3 F4 F5
    have OWN := hid hown; have B3 := hid hb3
    clear hown hb3 q3 c0
    go_wp2_with fail
    go_end0
    exact ⟨rfl, _, _, _, grow_end HT.out B2.out HQ.out hg3 B3.out rfl OWN.out Q.out⟩
end Go.Proofs.YtbikkioipamlmaaGreatDoor.T16
