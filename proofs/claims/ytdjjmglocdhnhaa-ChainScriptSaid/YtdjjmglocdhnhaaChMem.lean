/-
  The chain in memory: a map of maps.
-/
import Derived.Test.YtdjjmglocdhnhaaChPlain
import Derived.Test.YtdjjmglocdhnhaaFrame
import Derived.Maps.OwnSet
import Derived.Maps.OwnOps
import Derived.Maps.RangeWalk
import Derived.Maps.StringElems
import Derived.WalkSpells
namespace Go.Proofs.Ytdjjmglocdhnhaa
open Go.RowKit Go.Maps
set_option linter.unusedVariables false
/-! keys and elements -/
theorem intK : Keyed Try.prog 3 := int_keyed Try.underlying3
def olit (o : Int) : Lit := .int .i64 o
theorem keyI {o : Int} (h : (Lit.int .i64 o).wf = true) : keyOf Try.prog 3 (.int .i64 o) = some (olit o) := keyOf_int_mk Try.underlying3 h
theorem olit_ne {a b : Int} (h : a ≠ b) : olit a ≠ olit b := fun e => h (by unfold olit at e; injection e)
theorem olit_key (o : Int) : WideAt.IsKeyLit (olit o) := trivial
theorem mapO : Try.prog.underlying 49 = some (.map 3 52) := Try.underlying49
theorem mapI : Try.prog.underlying 52 = some (.map 3 9) := Try.underlying52
theorem zeroO (w : World) : (zeroValue 52).run Try.prog w = .ok (.map none) w := Try.zeroValue52 w
theorem zeroI (w : World) : (zeroValue 9).run Try.prog w = .ok (.string ByteArray.empty) w := Try.zeroValue9 w
/-- how a map reads that is an element of a map: by its block -/
def mapR : Value → Option (DataW Nat × List MemPlace)
  | .map none => some (.nil, [])
  | .map (some b) => some (.held b, [])
  | _ => none
theorem mapR_inv {v : Value} {z : DataW Nat × List MemPlace} (h : mapR v = some z) : (v = .map none ∧ z = (.nil, [])) ∨ ∃ b, v = .map (some b) ∧ z = (.held b, []) := by
  unfold mapR at h
  split at h
  · injection h with h; exact .inl ⟨rfl, h.symm⟩
  · injection h with h; exact .inr ⟨_, rfl, h.symm⟩
  · cases h
def sdat (k : ByteArray) : DataW Nat := .lit (.string k.data.toList)
theorem strE_mk {k : ByteArray} (h : k.size ≤ maxLen) : plainElem Try.prog 9 (.string k) = some (sdat k, []) := plainElem_string Try.underlying9 h
abbrev OMo (w : World) (b n : Nat) (D : DataW Nat) : Prop := w.ownsMap Try.prog 3 mapR b n D
abbrev OMi (w : World) (b n : Nat) (D : DataW Nat) : Prop := w.ownsMap Try.prog 3 (plainElem Try.prog 9) b n D
def HasS (L : List It) (s : Int) : Prop := ∃ x ∈ L, x.seq = s
instance (L : List It) (s : Int) : Decidable (HasS L s) := by unfold HasS; infer_instance
theorem hasS_its {L : List It} {s : Int} : HasS L s ↔ itsI L s ≠ [] := by
  rw [Ne, itsI_nil_iff]; unfold HasS; exact Decidable.not_not.symm
theorem hasS_ad {L : List It} {s o : Int} {k : ByteArray} {s' : Int} : HasS (adI L s o k) s' ↔ s' = s ∨ HasS L s' := by
  constructor
  · rintro ⟨x, hx, e⟩
    rcases mem_adI.1 hx with rfl | ⟨hx, _⟩
    · exact .inl e.symm
    · exact .inr ⟨x, hx, e⟩
  · intro h
    by_cases e : s' = s
    · exact ⟨⟨s, o, k⟩, mem_adI.2 (.inl rfl), e.symm⟩
    · rcases h with h | ⟨x, hx, hs⟩
      · exact absurd h e
      · exact ⟨x, mem_adI.2 (.inr ⟨hx, fun h => e (by omega)⟩), hs⟩
theorem hasS_rm_other {L : List It} {s o s' : Int} (h : s' ≠ s) : HasS (rmI L s o) s' ↔ HasS L s' := by rw [hasS_its, hasS_its, itsI_rm_other L o h]
theorem hasS_drop {L : List It} {s s' : Int} : HasS (dropI L s) s' ↔ HasS L s' ∧ s' ≠ s := by
  constructor
  · rintro ⟨x, hx, e⟩
    obtain ⟨hx, hne⟩ := mem_dropI.1 hx
    exact ⟨⟨x, hx, e⟩, fun e' => hne (e.trans e')⟩
  · rintro ⟨⟨x, hx, e⟩, hne⟩
    exact ⟨x, mem_dropI.2 ⟨hx, fun e' => hne (e.symm.trans e')⟩, e⟩
/-! what a region's map says -/
structure InA (D : DataW Nat) (l : List It) : Prop where
  has : ∀ o, Maps.has D (olit o) = decide (∃ x ∈ l, x.off = o)
  at' : ∀ x ∈ l, ∀ z, D.atKey (olit x.off) z = sdat x.key
  size : Maps.size D = l.length
theorem InA.nil : InA (.map []) [] := ⟨fun _ => rfl, fun x hx => by simp at hx, rfl⟩
theorem InA.put {D : DataW Nat} {L : List It} {s : Int} (h : InA D (itsI L s)) (hT : Tidy D) (hA : AscI L) (o : Int) (k : ByteArray) : InA (D.put (olit o) (sdat k)) (itsI (adI L s o k) s) := by
  have hmem : ∀ x, x ∈ itsI (adI L s o k) s ↔ x = ⟨s, o, k⟩ ∨ (x ∈ itsI L s ∧ x.off ≠ o) := fun x => by
    rw [mem_itsI, mem_adI, mem_itsI]
    constructor
    · rintro ⟨rfl | ⟨h1, h2⟩, h3⟩
      · exact .inl rfl
      · exact .inr ⟨⟨h1, h3⟩, fun e => h2 ⟨h3, e⟩⟩
    · rintro (rfl | ⟨⟨h1, h2⟩, h3⟩)
      · exact ⟨.inl rfl, rfl⟩
      · exact ⟨.inr ⟨h1, fun e => h3 e.2⟩, h2⟩
  refine ⟨fun o' => ?_, fun x hx z => ?_, ?_⟩
  · by_cases e : o' = o
    · subst e
      rw [has_put_same hT.isMap (olit_key _)]
      symm; rw [decide_eq_true_eq]
      exact ⟨_, (hmem _).2 (.inl rfl), rfl⟩
    · rw [has_put_other (olit_ne e), h.has]
      congr 1
      apply propext
      constructor
      · rintro ⟨x, hx, hxo⟩; exact ⟨x, (hmem x).2 (.inr ⟨hx, fun e' => e (hxo.symm.trans e')⟩), hxo⟩
      · rintro ⟨x, hx, hxo⟩
        rcases (hmem x).1 hx with rfl | ⟨hx, _⟩
        · exact absurd hxo.symm e
        · exact ⟨x, hx, hxo⟩
  · rcases (hmem x).1 hx with rfl | ⟨hx, hne⟩
    · exact atKey_put_same hT.isMap (olit_key _) _ _
    · rw [atKey_put_other (olit_ne hne)]; exact h.at' x hx z
  · rw [size_put hT, h.has, h.size, ad_length]
    have := rm_length hA s o
    by_cases e : ∃ x ∈ itsI L s, x.off = o
    · rw [if_pos e] at this; simp only [e, decide_true, if_true]; omega
    · rw [if_neg e] at this; simp only [e, decide_false]; simp; omega
theorem InA.del {D : DataW Nat} {L : List It} {s : Int} (h : InA D (itsI L s)) (hT : Tidy D) (hA : AscI L) (o : Int) : InA (D.del (olit o)) (itsI (rmI L s o) s) := by
  have hmem : ∀ x, x ∈ itsI (rmI L s o) s ↔ x ∈ itsI L s ∧ x.off ≠ o := fun x => by
    rw [mem_itsI, mem_rmI, mem_itsI]
    constructor
    · rintro ⟨⟨h1, h2⟩, h3⟩; exact ⟨⟨h1, h3⟩, fun e => h2 ⟨h3, e⟩⟩
    · rintro ⟨⟨h1, h2⟩, h3⟩; exact ⟨⟨h1, fun e => h3 e.2⟩, h2⟩
  refine ⟨fun o' => ?_, fun x hx z => ?_, ?_⟩
  · by_cases e : o' = o
    · subst e
      rw [has_del_same]
      symm; rw [decide_eq_false_iff_not]
      rintro ⟨x, hx, hxo⟩; exact ((hmem x).1 hx).2 hxo
    · rw [has_del_other (olit_ne e), h.has]
      congr 1
      apply propext
      constructor
      · rintro ⟨x, hx, hxo⟩; exact ⟨x, (hmem x).2 ⟨hx, fun e' => e (hxo.symm.trans e')⟩, hxo⟩
      · rintro ⟨x, hx, hxo⟩; exact ⟨x, ((hmem x).1 hx).1, hxo⟩
  · obtain ⟨hx, hne⟩ := (hmem x).1 hx
    rw [atKey_del_other (olit_ne hne)]; exact h.at' x hx z
  · have h1 := size_del (k := olit o) hT
    have h2 := rm_length hA s o
    rw [h.has, h.size] at h1
    simp only [decide_eq_true_eq] at h1
    omega
def InM (w : World) (b N : Nat) (l : List It) : Prop := ∃ n D, OMi w b n D ∧ n ≤ N ∧ InA D l
/-- the chain at block cb stands for the list L -/
structure ChP (w : World) (cb ob no N : Nat) (D : DataW Nat) (bl : Int → Nat) (L : List It) : Prop where
  blk : w.heap[cb]? = some (.cells #[.map (some ob)] 51 (0, 0))
  own : OMo w ob no D
  le : no ≤ N
  has : ∀ s, Maps.has D (olit s) = decide (HasS L s)
  at' : ∀ s, HasS L s → ∀ z, D.atKey (olit s) z = .held (bl s)
  inn : ∀ s, HasS L s → InM w (bl s) N (itsI L s)
  inj : ∀ s s', HasS L s → HasS L s' → bl s = bl s' → s = s'
  ne : ∀ s, HasS L s → bl s ≠ ob
def chfoot (cb ob : Nat) (bl : Int → Nat) (L : List It) (j : Nat) : Prop := j = cb ∨ j = ob ∨ ∃ s, HasS L s ∧ j = bl s
def Ch (w : World) (cb N : Nat) (L : List It) (R : Nat → Prop) : Prop := ∃ ob no D bl, ChP w cb ob no N D bl L ∧ R = chfoot cb ob bl L
theorem om_blk {w : World} {P : Program} {k : TypeId} {R : Value → Option (DataW Nat × List MemPlace)} {b n : Nat} {D : DataW Nat} (h : w.ownsMap P k R b n D) : ∃ es clock, w.heap[b]? = some (.map es clock) := by
  obtain ⟨es, clock, hb, _⟩ := h
  exact ⟨es, clock, hb⟩
theorem om_fr {w w' : World} {P : Program} {k : TypeId} {R : Value → Option (DataW Nat × List MemPlace)} {b n : Nat} {D : DataW Nat} {S : Nat → Prop} (h : w.ownsMap P k R b n D) (hf : Fr S w w') (hn : ¬ S b) : w'.ownsMap P k R b n D := by
  have hlt := h.lt
  obtain ⟨es, clock, hb, F, hs, hD⟩ := h
  exact ⟨es, clock, (hf.block b hlt hn).trans hb, F, hs, hD⟩
theorem ChP.lt {w : World} {cb ob no N : Nat} {D : DataW Nat} {bl : Int → Nat} {L : List It} (h : ChP w cb ob no N D bl L) : ∀ j, chfoot cb ob bl L j → j < w.heap.size := by
  rintro j (rfl | rfl | ⟨s, hs, rfl⟩)
  · exact blk_lt h.blk
  · exact h.own.lt
  · obtain ⟨n, D, ho, _⟩ := h.inn s hs
    exact ho.lt
theorem Ch.lt {w : World} {cb N : Nat} {L : List It} {R : Nat → Prop} (h : Ch w cb N L R) : ∀ j, R j → j < w.heap.size := by
  obtain ⟨ob, no, D, bl, p, rfl⟩ := h
  exact p.lt
theorem ChP.frame {w w' : World} {cb ob no N : Nat} {D : DataW Nat} {bl : Int → Nat} {L : List It} {S : Nat → Prop} (h : ChP w cb ob no N D bl L) (hf : Fr S w w') (hd : ∀ j, chfoot cb ob bl L j → ¬ S j) : ChP w' cb ob no N D bl L :=
  ⟨(hf.block cb (blk_lt h.blk) (hd cb (.inl rfl))).trans h.blk, om_fr h.own hf (hd ob (.inr (.inl rfl))), h.le, h.has, h.at', fun s hs => by
    obtain ⟨n, D, ho, hn, ha⟩ := h.inn s hs
    exact ⟨n, D, om_fr ho hf (hd _ (.inr (.inr ⟨s, hs, rfl⟩))), hn, ha⟩, h.inj, h.ne⟩
theorem Ch.frame {w w' : World} {cb N : Nat} {L : List It} {R S : Nat → Prop} (h : Ch w cb N L R) (hf : Fr S w w') (hd : ∀ j, R j → ¬ S j) : Ch w' cb N L R := by
  obtain ⟨ob, no, D, bl, p, rfl⟩ := h
  exact ⟨ob, no, D, bl, p.frame hf hd, rfl⟩
theorem Ch.below {w w' : World} {cb N : Nat} {L : List It} {R : Nat → Prop} (h : Ch w cb N L R) (hb : Below w.heap.size w w') : Ch w' cb N L R := h.frame (S := fun _ => False) (.of_below hb) (fun _ _ f => f)
theorem Ch.mono {w : World} {cb N N' : Nat} {L : List It} {R : Nat → Prop} (h : Ch w cb N L R) (hN : N ≤ N') : Ch w cb N' L R := by
  obtain ⟨ob, no, D, bl, p, rfl⟩ := h
  refine ⟨ob, no, D, bl, ⟨p.blk, p.own, Nat.le_trans p.le hN, p.has, p.at', fun s hs => ?_, p.inj, p.ne⟩, rfl⟩
  obtain ⟨n, D, ho, hn, ha⟩ := p.inn s hs
  exact ⟨n, D, ho, Nat.le_trans hn hN, ha⟩
theorem ChP.cb_ne {w : World} {cb ob no N : Nat} {D : DataW Nat} {bl : Int → Nat} {L : List It} (h : ChP w cb ob no N D bl L) : cb ≠ ob ∧ ∀ s, HasS L s → cb ≠ bl s := by
  refine ⟨fun e => ?_, fun s hs e => ?_⟩
  · obtain ⟨es, clock, hb⟩ := om_blk h.own
    have h1 := h.blk
    rw [e, hb] at h1; cases h1
  · obtain ⟨n, D', ho, _⟩ := h.inn s hs
    obtain ⟨es, clock, hb⟩ := om_blk ho
    have h1 := h.blk
    rw [e, hb] at h1; cases h1
/-- what a call that writes gives -/
def ChStep (w w' : World) (cb N : Nat) (L' : List It) (R : Nat → Prop) : Prop := ∃ R', Ch w' cb N L' R' ∧ Fr R w w' ∧ ∀ j, R' j → R j ∨ w.heap.size ≤ j
/-! the steps -/
theorem ChP.add_has {w w' : World} {cb ob no N n : Nat} {D Di : DataW Nat} {bl : Int → Nat} {L : List It} {s o : Int} {k : ByteArray} (h : ChP w cb ob no N D bl L) (hA : AscI L) (hs : HasS L s) (hi : OMi w (bl s) n Di) (hn : n ≤ N) (ha : InA Di (itsI L s))
    (ho : OMi w' (bl s) (n + 1) (Di.put (olit o) (sdat k))) (g : w.grownBy w' (some (bl s))) : ChStep w w' cb (N + 1) (adI L s o k) (chfoot cb ob bl L) := by
  obtain ⟨h1, h2⟩ := h.cb_ne
  have hf : Fr (fun j => j = bl s) w w' := .of_grown g (by rintro j e; cases e; rfl)
  have hh : ∀ s', HasS (adI L s o k) s' ↔ HasS L s' := fun s' => by
    rw [hasS_ad]
    exact ⟨fun h => h.elim (fun e => e ▸ hs) id, .inr⟩
  refine ⟨chfoot cb ob bl (adI L s o k), ⟨ob, no, D, bl, ⟨(hf.block cb (blk_lt h.blk) (h2 s hs)).trans h.blk, om_fr h.own hf (fun e => h.ne s hs e.symm), Nat.le_trans h.le (Nat.le_succ _), fun s' => ?_, fun s' hs' => h.at' s' ((hh s').1 hs'), fun s' hs' => ?_, fun a b ha hb => h.inj a b ((hh a).1 ha) ((hh b).1 hb), fun s' hs' => h.ne s' ((hh s').1 hs')⟩, rfl⟩, hf.mono (fun j _ e => .inr (.inr ⟨s, hs, e⟩)), ?_⟩
  · rw [h.has]; congr 1; exact propext (hh s').symm
  · by_cases e : s' = s
    · subst e
      exact ⟨n + 1, _, ho, by omega, ha.put (hi.tidy intK) hA o k⟩
    · obtain ⟨n', D', ho', hn', ha'⟩ := h.inn s' ((hh s').1 hs')
      refine ⟨n', D', om_fr ho' hf (fun e' => e (h.inj s' s ((hh s').1 hs') hs e')), by omega, ?_⟩
      rw [itsI_ad_other L o k e]; exact ha'
  · rintro j (rfl | rfl | ⟨s', hs', rfl⟩)
    · exact .inl (.inl rfl)
    · exact .inl (.inr (.inl rfl))
    · exact .inl (.inr (.inr ⟨s', (hh s').1 hs', rfl⟩))
theorem ChP.add_new {w w1 w' : World} {cb ob no N : Nat} {D : DataW Nat} {bl : Int → Nat} {L : List It} {s o : Int} {k : ByteArray} (h : ChP w cb ob no N D bl L) (hA : AscI L) (hs : ¬ HasS L s)
    (h1 : OMo w1 ob (no + 1) (D.put (olit s) (.held w.heap.size))) (g1 : (w.alloc (.map #[] 0)).grownBy w1 (some ob)) (h2 : OMi w' w.heap.size 1 ((DataW.map []).put (olit o) (sdat k))) (g2 : w1.grownBy w' (some w.heap.size)) : ChStep w w' cb (N + 1) (adI L s o k) (chfoot cb ob bl L) := by
  obtain ⟨n1, n2⟩ := h.cb_ne
  have hob := h.own.lt
  have hf : Fr (fun j => j = ob) w w' := by
    have a : Fr (fun j => j = ob) w (w.alloc (.map #[] 0)) := .of_below ((Below.refl _ _).alloc (Nat.le_refl _) _)
    have b : Fr (fun j => j = ob) w w1 := a.trans (T := fun j => j = ob) (.of_grown g1 (by rintro j e; cases e; rfl)) (fun j hj => .inl hj)
    exact b.trans (T := fun j => j = w.heap.size) (.of_grown g2 (by rintro j e; cases e; rfl)) (fun j hj => .inr (by omega))
  have hf1 : Fr (fun j => j = w.heap.size) w1 w' := .of_grown g2 (by rintro j e; cases e; rfl)
  have hits : itsI L s = [] := itsI_nil_iff.2 hs
  have hh : ∀ s', HasS (adI L s o k) s' ↔ s' = s ∨ HasS L s' := fun s' => hasS_ad
  have hno : ∀ s', HasS L s' → s' ≠ s := fun s' hs' e => hs (e ▸ hs')
  have hbl : ∀ s', HasS L s' → bl s' < w.heap.size := fun s' hs' => h.lt _ (.inr (.inr ⟨s', hs', rfl⟩))
  have hT := h.own.tidy intK
  refine ⟨chfoot cb ob (fun s' => if s' = s then w.heap.size else bl s') (adI L s o k), ⟨ob, no + 1, _, fun s' => if s' = s then w.heap.size else bl s', ⟨(hf.block cb (blk_lt h.blk) n1).trans h.blk, om_fr h1 hf1 (by omega), by have := h.le; omega, fun s' => ?_, fun s' hs' z => ?_, fun s' hs' => ?_, fun a b ha hb e => ?_, fun s' hs' => ?_⟩, rfl⟩, hf.mono (fun j _ e => .inr (.inl e)), ?_⟩
  · by_cases e : s' = s
    · subst e
      rw [has_put_same hT.isMap (olit_key _)]
      symm; rw [decide_eq_true_eq, hh]; exact .inl rfl
    · rw [has_put_other (olit_ne e), h.has]
      congr 1
      apply propext
      rw [hh]
      exact ⟨.inr, fun h => h.elim (fun e' => absurd e' e) id⟩
  · by_cases e : s' = s
    · subst e
      rw [if_pos rfl, atKey_put_same hT.isMap (olit_key _)]
    · rw [if_neg e, atKey_put_other (olit_ne e)]
      exact h.at' s' (((hh s').1 hs').elim (fun e' => absurd e' e) id) z
  · by_cases e : s' = s
    · subst e
      rw [if_pos rfl]
      refine ⟨1, _, h2, by omega, ?_⟩
      exact InA.put (by rw [hits]; exact InA.nil) tidy_empty hA o k
    · rw [if_neg e]
      have hs'' := ((hh s').1 hs').elim (fun e' => absurd e' e) id
      obtain ⟨n', D', ho', hn', ha'⟩ := h.inn s' hs''
      refine ⟨n', D', om_fr ho' hf (h.ne s' hs''), by omega, ?_⟩
      rw [itsI_ad_other L o k e]; exact ha'
  · rcases (hh a).1 ha with rfl | ha'
    · rcases (hh b).1 hb with rfl | hb'
      · rfl
      · rw [if_pos rfl, if_neg (hno b hb')] at e
        have := hbl b hb'; omega
    · rw [if_neg (hno a ha')] at e
      rcases (hh b).1 hb with rfl | hb'
      · rw [if_pos rfl] at e
        have := hbl a ha'; omega
      · rw [if_neg (hno b hb')] at e
        exact h.inj a b ha' hb' e
  · show (if s' = s then w.heap.size else bl s') ≠ ob
    by_cases e : s' = s
    · rw [if_pos e]; omega
    · rw [if_neg e]; exact h.ne s' (((hh s').1 hs').elim (fun e' => absurd e' e) id)
  · rintro j (rfl | rfl | ⟨s', hs', rfl⟩)
    · exact .inl (.inl rfl)
    · exact .inl (.inr (.inl rfl))
    · rcases (hh s').1 hs' with e | hs''
      · subst e
        dsimp only
        rw [if_pos rfl]; exact .inr (Nat.le_refl _)
      · dsimp only
        rw [if_neg (hno s' hs'')]; exact .inl (.inr (.inr ⟨s', hs'', rfl⟩))
/-- an item is taken out of a region that keeps others -/
theorem ChP.rm_some {w w' : World} {cb ob no N n : Nat} {D Di : DataW Nat} {bl : Int → Nat} {L : List It} {s o : Int} (h : ChP w cb ob no N D bl L) (hA : AscI L) (hs : HasS L s) (hi : OMi w (bl s) n Di) (hn : n ≤ N) (ha : InA Di (itsI L s))
    (ho : OMi w' (bl s) n (Di.del (olit o))) (g : w.grownBy w' (some (bl s))) (hne : itsI (rmI L s o) s ≠ []) : ChStep w w' cb N (rmI L s o) (chfoot cb ob bl L) := by
  obtain ⟨h1, h2⟩ := h.cb_ne
  have hf : Fr (fun j => j = bl s) w w' := .of_grown g (by rintro j e; cases e; rfl)
  have hh : ∀ s', HasS (rmI L s o) s' ↔ HasS L s' := fun s' => by
    by_cases e : s' = s
    · subst e; exact ⟨fun _ => hs, fun _ => hasS_its.2 hne⟩
    · exact hasS_rm_other e
  refine ⟨chfoot cb ob bl (rmI L s o), ⟨ob, no, D, bl, ⟨(hf.block cb (blk_lt h.blk) (h2 s hs)).trans h.blk, om_fr h.own hf (fun e => h.ne s hs e.symm), h.le, fun s' => ?_, fun s' hs' => h.at' s' ((hh s').1 hs'), fun s' hs' => ?_, fun a b ha hb => h.inj a b ((hh a).1 ha) ((hh b).1 hb), fun s' hs' => h.ne s' ((hh s').1 hs')⟩, rfl⟩, hf.mono (fun j _ e => .inr (.inr ⟨s, hs, e⟩)), ?_⟩
  · rw [h.has]; congr 1; exact propext (hh s').symm
  · by_cases e : s' = s
    · subst e
      exact ⟨n, _, ho, hn, ha.del (hi.tidy intK) hA o⟩
    · obtain ⟨n', D', ho', hn', ha'⟩ := h.inn s' ((hh s').1 hs')
      refine ⟨n', D', om_fr ho' hf (fun e' => e (h.inj s' s ((hh s').1 hs') hs e')), hn', ?_⟩
      rw [itsI_rm_other L o e]; exact ha'
  · rintro j (rfl | rfl | ⟨s', hs', rfl⟩)
    · exact .inl (.inl rfl)
    · exact .inl (.inr (.inl rfl))
    · exact .inl (.inr (.inr ⟨s', (hh s').1 hs', rfl⟩))
/-- a region goes -/
theorem ChP.gone {w w' : World} {cb ob no N : Nat} {D : DataW Nat} {bl : Int → Nat} {L L' : List It} {s : Int} {S : Nat → Prop} (h : ChP w cb ob no N D bl L) (hS : ∀ j, S j → j = ob ∨ (HasS L s ∧ j = bl s)) (hf : Fr S w w') (ho : OMo w' ob no (D.del (olit s)))
    (hh : ∀ s', HasS L' s' ↔ HasS L s' ∧ s' ≠ s) (hi : ∀ s', s' ≠ s → itsI L' s' = itsI L s') : ChStep w w' cb N L' (chfoot cb ob bl L) := by
  obtain ⟨h1, h2⟩ := h.cb_ne
  refine ⟨chfoot cb ob bl L', ⟨ob, no, _, bl, ⟨(hf.block cb (blk_lt h.blk) (fun hs => (hS cb hs).elim h1 (fun e => h2 s e.1 e.2))).trans h.blk, ho, h.le, fun s' => ?_, fun s' hs' z => ?_, fun s' hs' => ?_, fun a b ha hb => h.inj a b ((hh a).1 ha).1 ((hh b).1 hb).1, fun s' hs' => h.ne s' ((hh s').1 hs').1⟩, rfl⟩, hf.mono (fun j _ hj => (hS j hj).elim (fun e => .inr (.inl e)) (fun e => .inr (.inr ⟨s, e.1, e.2⟩))), ?_⟩
  · by_cases e : s' = s
    · subst e
      rw [has_del_same]
      symm; rw [decide_eq_false_iff_not, hh]; exact fun h => h.2 rfl
    · rw [has_del_other (olit_ne e), h.has]
      congr 1
      apply propext
      rw [hh]
      exact ⟨fun h => ⟨h, e⟩, fun h => h.1⟩
  · obtain ⟨a, b⟩ := (hh s').1 hs'
    rw [atKey_del_other (olit_ne b)]; exact h.at' s' a z
  · obtain ⟨a, b⟩ := (hh s').1 hs'
    obtain ⟨n', D', ho', hn', ha'⟩ := h.inn s' a
    refine ⟨n', D', om_fr ho' hf (fun hs => (hS _ hs).elim (h.ne s' a) (fun e => b (h.inj s' s a e.1 e.2))), hn', ?_⟩
    rw [hi s' b]; exact ha'
  · rintro j (rfl | rfl | ⟨s', hs', rfl⟩)
    · exact .inl (.inl rfl)
    · exact .inl (.inr (.inl rfl))
    · exact .inl (.inr (.inr ⟨s', ((hh s').1 hs').1, rfl⟩))
/-! what the look-ups give -/
theorem ChP.look {w : World} {cb ob no N : Nat} {D : DataW Nat} {bl : Int → Nat} {L : List It} (h : ChP w cb ob no N D bl L) {s : Int} (hw : (Lit.int .i64 s).wf = true) :
    (Instr.lookup 49 (.map (some ob)) (.int .i64 s) false).run Try.prog w = .ok (.map (if HasS L s then some (bl s) else none)) w := by
  obtain ⟨v, ps, hrun, hv⟩ := h.own.lookup intK mapO (zeroO w) (zd := .nil) (zp := []) rfl (keyI hw)
  rw [hrun]
  by_cases hs : HasS L s
  · rw [if_pos hs]
    rw [h.at' s hs] at hv
    rcases mapR_inv hv with ⟨_, e⟩ | ⟨b, rfl, e⟩
    · cases e
    · cases e; rfl
  · rw [if_neg hs]
    have h0 : Maps.has D (olit s) = false := by rw [h.has]; simp [hs]
    rw [atKey_of_not_has h0] at hv
    rcases mapR_inv hv with ⟨rfl, _⟩ | ⟨b, rfl, e⟩
    · rfl
    · cases e
theorem OMo.look_of {w : World} {ob no : Nat} {D : DataW Nat} (h : OMo w ob no D) {s : Int} {b : Nat} (hw : (Lit.int .i64 s).wf = true) (ha : ∀ z, D.atKey (olit s) z = .held b) :
    (Instr.lookup 49 (.map (some ob)) (.int .i64 s) false).run Try.prog w = .ok (.map (some b)) w := by
  obtain ⟨v, ps, hrun, hv⟩ := World.ownsMap.lookup h intK mapO (zeroO w) (zd := .nil) (zp := []) rfl (keyI hw)
  rw [hrun]
  rw [ha] at hv
  rcases mapR_inv hv with ⟨_, e⟩ | ⟨b', rfl, e⟩
  · cases e
  · cases e; rfl
/-- is an item there? -/
def HasO (L : List It) (s o : Int) : Prop := ∃ x ∈ itsI L s, x.off = o
instance (L : List It) (s o : Int) : Decidable (HasO L s o) := by unfold HasO; infer_instance
theorem OMi.look {w : World} {b n : Nat} {D : DataW Nat} (h : OMi w b n D) {L : List It} {s : Int} (ha : InA D (itsI L s)) {o : Int} (hw : (Lit.int .i64 o).wf = true) :
    ∃ v, (Instr.lookup 52 (.map (some b)) (.int .i64 o) true).run Try.prog w = .ok (.tuple #[v, .bool (decide (HasO L s o))]) w := by
  obtain ⟨v, ps, hrun, hv⟩ := World.ownsMap.look_ok h intK mapI (zeroI w) (zd := sdat ByteArray.empty) (zp := []) (strE_mk (by unfold maxLen; simp)) (keyI hw)
  have e : decide (∃ x ∈ itsI L s, x.off = o) = decide (HasO L s o) := decide_eq_decide.2 Iff.rfl
  exact ⟨v, by rw [hrun, ha.has, e]⟩
end Go.Proofs.Ytdjjmglocdhnhaa
