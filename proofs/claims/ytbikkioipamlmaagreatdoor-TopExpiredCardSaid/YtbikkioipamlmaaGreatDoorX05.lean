/-
  Laws and contracts for the statement TopExpired.
-/
import Derived.WalkLawsBesides
import Derived.Test.YtbikkioipamlmaaGreatDoorX04
open Go.Lib (hid)
open Go.Proofs.Tryz (prog)
set_option linter.unusedVariables false
set_option linter.unusedSimpArgs false
set_option maxRecDepth 100000
set_option maxHeartbeats 20000000
namespace Go.Proofs.YtbikkioipamlmaaGreatDoor
open Go.Maps Go.RowKit
theorem bel_set6a {w w3 : World} {b : Nat} (h : Below w.heap.size w w3) (hb : w.heap.size <= b) (x0 x1 x2 x3 x4 x5 : Value) (o : Obj) :
    Below w.heap.size w (((((((w3.setCell ⟨b, 0, none⟩ x0).setCell ⟨b, 1, none⟩ x1).setCell ⟨b, 2, none⟩ x2).setCell ⟨b, 3, none⟩ x3).setCell ⟨b, 4, none⟩ x4).setCell ⟨b, 5, none⟩ x5).alloc o) :=
  have h6 := sB (sB (sB (sB (sB (sB h hb) hb) hb) hb) hb) hb
  h6.alloc h6.size _
theorem hdec8x (T : Nat -> Int) (a : Option Addr) (n cap : Nat) (bs : List Int) (sector : Int) (w : World) (h : CrcT T w) (hr : Rd8 w a n cap bs) (h0 : 0 <= sector) (h1 : sector < 1048576) :
    Calls prog 193 #[.slice a n cap, .int .i64 sector] w fun e w' => ∃ (k0 k1 k2 k3 k4 k5 : Int) (ok : Bool), e = .returned (.tuple #[.agg #[.int .i64 k0, .int .i64 k1, .int .i64 k2, .int .i64 k3, .int .i64 k4, .int .i64 k5], .bool ok]) /\ (hdD (crcF T) sector bs = if ok then some ⟨k0, k1, k2, k3, k4, k5⟩ else none) /\ Below w.heap.size w w' := by
  refine (hdec8 T a n cap bs sector w h hr h0 h1).mono ?_
  rintro e w' ⟨rfl, hb⟩
  cases hq : hdD (crcF T) sector bs with
  | none => exact ⟨0, 0, 0, 0, 0, 0, false, rfl, rfl, hb⟩
  | some k => exact ⟨k.ver, k.slot, k.lay, k.seq, k.tail, k.now, true, rfl, rfl, hb⟩
theorem shead8 (T : Nat -> Int) (dp ib mb cap n : Nat) (D : DataW Nat) (S : List (List Int)) (wn : Nat) (l : Lay) (slot : Nat) (w : World) (hd : Dev w dp ib mb cap n D S wn) (hT : CrcT T w) (hf : formB l = true) (hs : (slot : Int) < l.rg) (hS : 74 + slot * l.rs.toNat < S.length) :
    Calls prog 121 #[.pointer (some ⟨dp, 0, none⟩), .agg #[.int .i64 l.id, .int .i64 l.ver, .int .i64 l.rs, .int .i64 l.rg], .int .i64 (slot : Int)] w fun e w' => e = .returned (.tuple #[.agg ⟨((headAt (crcF T) S l slot).getD Hd.zero).vals⟩, .bool (headAt (crcF T) S l slot).isSome]) /\ Below w.heap.size w w' := by
  have hfn := firstD_nat hf slot hs
  obtain ⟨fi, hfi⟩ : ∃ fi, 74 + slot * l.rs.toNat = fi := ⟨_, rfl⟩
  have hfr := firstD_rng l (slot : Int)
  rw [hfn] at hfr
  have hha : headAt (crcF T) S l slot = match hdD (crcF T) (fi : Nat) (S[fi]?.getD []) with | none => none | some h => if h.ver = l.ver /\ h.lay = l.id /\ h.slot = slot then some h else none := by
    unfold headAt
    rw [hfi, List.getElem?_eq_getElem (by omega)]
    rfl
  rw [hfi] at hS hfr hfn
  obtain ⟨s, hs9⟩ : ∃ s, S[fi]? = some s := ⟨_, List.getElem?_eq_getElem hS⟩
  rw [hs9] at hha
  simp only [Option.getD_some] at hha
  obtain ⟨o, ho⟩ : ∃ o, headAt (crcF T) S l slot = o := ⟨_, rfl⟩
  rw [ho] at hha ⊢
  obtain ⟨r1, hr1⟩ : ∃ r1, (Value.agg ⟨(o.getD Hd.zero).vals⟩) = r1 := ⟨_, rfl⟩
  obtain ⟨r2, hr2⟩ : ∃ r2, o.isSome = r2 := ⟨_, rfl⟩
  rw [hr1, hr2]
  have HR1 := hid hr1
  have HR2 := hid hr2
  have F1 := hid (fun W => first13 l.id l.ver l.rs l.rg (slot : Int) W)
  have RD := hid (fun (W : World) (hD : Dev W dp ib mb cap n D S wn) => readD dp ib mb cap n D S wn fi s W hD hs9)
  have HDD := hid (fun (W : World) (a : Option Addr) (c : Nat) (hT : CrcT T W) (hR : Rd8 W a 64 c s) => hdec8x T a 64 c s (fi : Int) W hT hR (by omega) (by omega))
  have HD := hid hd
  have HT := hid hT
  rw [show (⟨l.id, l.ver, l.rs, l.rg⟩ : Lay) = l from rfl, hfn] at F1
  have hfi0 : 0 <= (fi : Int) := by omega
  obtain ⟨w0, hw0⟩ : ∃ w0, (w.alloc (.cells #[.int .i64 l.id, .int .i64 l.ver, .int .i64 l.rs, .int .i64 l.rg] 26)).alloc (.cells #[.int .i64 0, .int .i64 0, .int .i64 0, .int .i64 0, .int .i64 0, .int .i64 0] 66) = w0 := ⟨_, rfl⟩
  have hs0 : w0.heap.size = w.heap.size + 1 + 1 := by rw [<- hw0]; simp
  have B0 := hid (show Below w.heap.size w w0 by rw [<- hw0]; exact ((Below.refl _ _).alloc (Nat.le_refl _) _).alloc (by simp) _)
  have HL0 := hid (show w0.heap[w.heap.size]? = some (.cells #[.int .i64 l.id, .int .i64 l.ver, .int .i64 l.rs, .int .i64 l.rg] 26 (0, 0)) by rw [<- hw0]; exact old_at (nB w _) _)
  have HH0 := hid (show w0.heap[w.heap.size + 1]? = some (.cells #[.int .i64 0, .int .i64 0, .int .i64 0, .int .i64 0, .int .i64 0, .int .i64 0] 66 (0, 0)) by rw [<- hw0, has1 w (.cells #[.int .i64 l.id, .int .i64 l.ver, .int .i64 l.rs, .int .i64 l.rg] 26)]; exact nB _ _)
  have KL := hid (show ∀ W, Below w0.heap.size w0 W -> (W.cell? ⟨w.heap.size, 0, none⟩ = some (.int .i64 l.id) /\ W.cell? ⟨w.heap.size, 1, none⟩ = some (.int .i64 l.ver) /\ W.cell? ⟨w.heap.size, 2, none⟩ = some (.int .i64 l.rs) /\ W.cell? ⟨w.heap.size, 3, none⟩ = some (.int .i64 l.rg)) from fun W hW =>
    have e := (hW.block _ (by omega)).trans HL0.out
    ⟨qB e, qB e, qB e, qB e⟩)
  have KH := hid (show ∀ W, Below w0.heap.size w0 W -> (W.cell? ⟨w.heap.size + 1, 0, none⟩ = some (.int .i64 0) /\ W.cell? ⟨w.heap.size + 1, 1, none⟩ = some (.int .i64 0) /\ W.cell? ⟨w.heap.size + 1, 2, none⟩ = some (.int .i64 0) /\ W.cell? ⟨w.heap.size + 1, 3, none⟩ = some (.int .i64 0) /\ W.cell? ⟨w.heap.size + 1, 4, none⟩ = some (.int .i64 0) /\ W.cell? ⟨w.heap.size + 1, 5, none⟩ = some (.int .i64 0)) /\ (W.frozen? ⟨w.heap.size + 1, 0, none⟩ = false /\ W.frozen? ⟨w.heap.size + 1, 1, none⟩ = false /\ W.frozen? ⟨w.heap.size + 1, 2, none⟩ = false /\ W.frozen? ⟨w.heap.size + 1, 3, none⟩ = false /\ W.frozen? ⟨w.heap.size + 1, 4, none⟩ = false /\ W.frozen? ⟨w.heap.size + 1, 5, none⟩ = false) from fun W hW =>
    have e := (hW.block _ (by omega)).trans HH0.out
    ⟨⟨qB e, qB e, qB e, qB e, qB e, qB e⟩, zB e, zB e, zB e, zB e, zB e, zB e⟩)
  have HHA := hid hha
  obtain ⟨kl0, kl1, kl2, kl3⟩ := KL.out w0 (Below.refl _ _)
  clear hd hT hf hfr hfi hs9 hha hfn ho hr1 hr2
  obtain ⟨id, ver, rs, rg⟩ := l
  simp only at *
  go_enter Tryz.func121, Tryz.ntmps121
  go_wp2_with fail
  (try rw [hw0])
  clear hw0
  with_reducible refine (F1.out _).mono ?_
  rintro e w1 ⟨rfl, hb1⟩
  have B1 := hid hb1
  have RD1 := hid (RD.out w1 (HD.out.below (tB B0.out hb1)))
  clear hb1
  go_wp2_with fail
  with_reducible refine RD1.out.mono ?_
  rintro e w2 ⟨a2, c2, rfl, hr2, hb2⟩
  have B2 := hid (tB B1.out hb2)
  have HD2 := hid (HDD.out w2 a2 c2 (HT.out.below (tB B0.out B2.out) HT.out.lt) hr2)
  clear hb2 hr2
  go_wp2_with fail
  with_reducible refine HD2.out.mono ?_
  rintro e w3 ⟨hv, hsl, hla, hse, hta, hno, ok, rfl, hq, hb3⟩
  have B3 := hid (tB B2.out hb3)
  obtain ⟨⟨x0, x1, x2, x3, x4, x5⟩, y0, y1, y2, y3, y4, y5⟩ := KH.out w3 B3.out
  obtain ⟨kl0, kl1, kl2, kl3⟩ := KL.out w3 B3.out
  have HB9 := hid ((B3.out.block (w.heap.size + 1) (by omega)).trans HH0.out)
  have HB10 := hid (show (w3.alloc (.cells #[.int .i64 hv, .int .i64 hsl, .int .i64 hla, .int .i64 hse, .int .i64 hta, .int .i64 hno] 66)).heap[w.heap.size + 1]? = _ from old_at HB9.out _)
  have B10 := hid (show Below w.heap.size w (w3.alloc (.cells #[.int .i64 hv, .int .i64 hsl, .int .i64 hla, .int .i64 hse, .int .i64 hta, .int .i64 hno] 66)) from (tB B0.out B3.out).alloc (tB B0.out B3.out).size _)
  have hs3 := B3.out.size
  have hl1 : w.heap.size + 1 < w3.heap.size := by omega
  have hl2 : w.heap.size < w3.heap.size := by omega
  clear hb3 F1 RD HDD hs3
  cases ok
  · have e := HHA.out
    rw [hq] at e
    have E := hid (show o = none from e)
    clear e hq
    go_wp2_with (with_reducible refine bodyPost_ret (results_cell2 rfl _ _ (w.heap.size + 1) _ _ _ _ rfl (old_at (set6 HB9.out _ _ _ _ _ _) _) Tryz.underlying66 rfl (by kernel_rfl)) rfl ?_)
    exact ⟨⟨by rw [<- HR1.out, E.out]; rfl, by rw [<- HR2.out, E.out]; rfl⟩, bel_set6a (tB B0.out B3.out) (by omega) _ _ _ _ _ _ _⟩
  · have e := HHA.out
    rw [hq] at e
    simp only [if_true] at e
    clear hq
    by_cases hm : hv = ver /\ hla = id /\ hsl = slot
    · rw [if_pos hm] at e
      obtain ⟨rfl, rfl, rfl⟩ := hm
      have E := hid (show o = some _ from e)
      clear e
      go_wp2_with (with_reducible refine bodyPost_ret (results_cell2 rfl _ _ (w.heap.size + 1) _ _ _ _ rfl (old_at (set6 HB9.out _ _ _ _ _ _) _) Tryz.underlying66 rfl (by kernel_rfl)) rfl ?_)
      exact ⟨⟨by rw [<- HR1.out, E.out]; rfl, by rw [<- HR2.out, E.out]; rfl⟩, bel_set6a (tB B0.out B3.out) (by omega) _ _ _ _ _ _ _⟩
    · rw [if_neg hm] at e
      have E := hid (show o = none from e)
      clear e
      have h3 : (¬ hv = ver) \/ (hv = ver /\ ¬ hla = id) \/ (hv = ver /\ hla = id /\ ¬ hsl = (slot : Int)) := by
        by_cases h1 : hv = ver
        · by_cases h2 : hla = id
          · exact .inr (.inr ⟨h1, h2, fun h3 => hm ⟨h1, h2, h3⟩⟩)
          · exact .inr (.inl ⟨h1, h2⟩)
        · exact .inl h1
      clear hm
      rcases h3 with h1 | ⟨rfl, h1⟩ | ⟨rfl, rfl, h1⟩
      all_goals
        have h2 := bne_iff_ne.2 h1
        go_wp2_with (with_reducible refine bodyPost_ret (results_cell2 rfl _ _ (w.heap.size + 1) _ _ _ _ rfl (old_at (set6 HB9.out _ _ _ _ _ _) _) Tryz.underlying66 rfl (by kernel_rfl)) rfl ?_)
        exact ⟨⟨by rw [<- HR1.out, E.out]; rfl, by rw [<- HR2.out, E.out]; rfl⟩, bel_set6a (tB B0.out B3.out) (by omega) _ _ _ _ _ _ _⟩
end Go.Proofs.YtbikkioipamlmaaGreatDoor
namespace Go.Proofs.YtbikkioipamlmaaGreatDoor
open Go.ChangeShapes Go.RowKit Go.WideShapes
section
variable {P : Program} {w : World}
def Reads (P : Program) (w : World) (t : TypeId) (cs : List Value) : Prop :=
  ∃ (H : Type) (enc : TypeId × Value -> H) (held : Bool) (fuel : Nat) (x : DataW H × List MemPlace), DataW.trod enc P w 0 (fun _ => true) held fuel t cs = some x
theorem Reads.of {H : Type} {enc : TypeId × Value -> H} {held : Bool} {t : TypeId} {v : Value} {d : DataW H} {p : List MemPlace} (h : DataW.Trod enc P w 0 (fun _ => true) held t v d p) : Reads P w t v.cells.toList := by
  obtain ⟨fuel, hf⟩ := h
  exact ⟨H, enc, held, fuel, _, hf⟩
theorem Reads.int {t : TypeId} {k : IntKind} {cs : List Value} (ht : P.underlying t = some (.int k)) (h : Reads P w t cs) : ∃ n, cs = [.int k n] /\ (Lit.int k n).wf = true := by
  obtain ⟨H, enc, held, fuel, x, hx⟩ := h
  obtain ⟨n, h1, _, h2⟩ := DataW.trod_int ht hx
  exact ⟨n, h1, h2⟩
theorem mapM_some {α β : Type} {f : α -> Option β} : ∀ {l : List α} {ys : List β}, l.mapM f = some ys -> ∀ a ∈ l, ∃ b, f a = some b
  | [], _, _, a, ha => by cases ha
  | x :: l, ys, h, a, ha => by
    rw [List.mapM_cons] at h
    simp only [Option.bind_eq_bind, Option.bind_eq_some_iff] at h
    obtain ⟨b, hb, bs, hbs, _⟩ := h
    rcases List.mem_cons.1 ha with rfl | ha
    · exact ⟨b, hb⟩
    · exact mapM_some hbs a ha
theorem Reads.struct {t : TypeId} {fs : Array Field} {cs : List Value} (ht : P.underlying t = some (.struct fs)) (h : Reads P w t cs) :
    cs.length = P.cellsOf t /\ ∀ f ∈ fs.toList, Reads P w f.type ((cs.drop f.offset).take (P.cellsOf f.type)) := by
  obtain ⟨H, enc, held, fuel, x, hx⟩ := h
  cases fuel with
  | zero => simp [DataW.trod] at hx
  | succ n =>
    unfold DataW.trod at hx
    rw [ht] at hx
    split at hx
    all_goals first
      | (rename_i e _; injection e with e; cases e; fail)
      | skip
    all_goals simp_all
    all_goals
      obtain ⟨h1, xs, h2, h3⟩ := hx
      exact fun f hf => by
        obtain ⟨b, hb⟩ := mapM_some h2 f (Array.mem_toList_iff.2 hf)
        exact ⟨H, enc, held, n, b, hb⟩
theorem Reads.slice {t e : TypeId} {cs : List Value} (ht : P.underlying t = some (.slice e)) (h : Reads P w t cs) :
    cs = [.slice none 0 0] \/ ∃ a len cap, cs = [.slice (some a) len cap] /\ len <= cap /\ cap <= maxLen /\
      ∀ i, i < len -> ∃ es, w.cells? 0 (a.add (i * P.cellsOf e)) (P.cellsOf e) = some es /\ Reads P w e es := by
  obtain ⟨H, enc, held, fuel, x, hx⟩ := h
  cases fuel with
  | zero => simp [DataW.trod] at hx
  | succ n =>
    unfold DataW.trod at hx
    rw [ht] at hx
    split at hx
    all_goals first
      | (rename_i e _; injection e with e; cases e; fail)
      | skip
    all_goals try (left; rfl)
    all_goals try (exfalso; simp_all; done)
    all_goals
      rename_i e' a len cap he
      injection he with he
      injection he with he
      subst he
      right
      refine ⟨a, len, cap, rfl, ?_⟩
      split at hx
      · rename_i hc
        refine ⟨hc.2.1, hc.2.2, fun i hi => ?_⟩
        obtain ⟨xs, h3, h4⟩ := Option.bind_eq_some_iff.1 hx
        obtain ⟨b, hb⟩ := mapM_some h3 i (by simpa using hi)
        obtain ⟨es, he, hr⟩ := Option.bind_eq_some_iff.1 hb
        exact ⟨es, he, H, enc, held, n, b, hr⟩
      · cases hx
def RowsAt (w : World) (C : Nat) (a : Option Addr) (len : Nat) (f : Nat -> List Value) : Prop :=
  ∀ i, i < len -> ∃ b off, a = some ⟨b, off, none⟩ /\ b < w.heap.size /\ ∀ j, j < C -> w.cell? ⟨b, off + (i * C + j), none⟩ = (f i)[j]?
theorem Reads.rows {t e C : Nat} {cs : List Value} (ht : P.underlying t = some (.slice e)) (hC : P.cellsOf e = C) (h0 : 0 < C) (h : Reads P w t cs) :
    ∃ a len cap f, cs = [.slice a len cap] /\ len <= cap /\ cap <= maxLen /\ (a = none -> len = 0 /\ cap = 0) /\ RowsAt w C a len f /\ ∀ i, i < len -> (f i).length = C /\ Reads P w e (f i) := by
  rcases h.slice ht with rfl | ⟨a, len, cap, rfl, h1, h2, h3⟩
  · exact ⟨none, 0, 0, fun _ => [], rfl, Nat.le_refl _, by unfold maxLen; omega, fun _ => ⟨rfl, rfl⟩, fun i hi => by omega, fun i hi => by omega⟩
  · rw [hC] at h3
    have key : ∀ i, ∃ es, i < len -> (∃ b off, some a = some ⟨b, off, none⟩ /\ b < w.heap.size /\ ∀ j, j < C -> w.cell? ⟨b, off + (i * C + j), none⟩ = es[j]?) /\ es.length = C /\ Reads P w e es := by
      intro i
      by_cases hi : i < len
      · obtain ⟨b, off, spot⟩ := a
        have hspot : spot = none := by
          obtain ⟨es, he, _⟩ := h3 0 (by omega)
          obtain ⟨_, hl, hc⟩ := World.cells?_some he
          have g := hc 0 h0
          rw [List.getElem?_eq_getElem (by omega)] at g
          simpa [Addr.add] using World.cell?_spot g
        subst hspot
        obtain ⟨es, he, hr⟩ := h3 i hi
        obtain ⟨_, hl, hc⟩ := World.cells?_some he
        have hc' : ∀ j, j < C -> w.cell? ⟨b, off + (i * C + j), none⟩ = es[j]? := by
          intro j hj
          have := hc j hj
          rw [add_plain, add_plain, Nat.add_assoc] at this
          exact this
        refine ⟨es, fun _ => ⟨⟨b, off, rfl, ?_, hc'⟩, hl, hr⟩⟩
        have g := hc' 0 h0
        rw [List.getElem?_eq_getElem (by omega)] at g
        exact World.block_lt_of_cell? _ _ g
      · exact ⟨[], fun h => (hi h).elim⟩
    obtain ⟨f, hf⟩ := Classical.axiomOfChoice key
    exact ⟨some a, len, cap, f, rfl, h1, h2, (fun e => by cases e), fun i hi => (hf i hi).1, fun i hi => (hf i hi).2⟩
end
end Go.Proofs.YtbikkioipamlmaaGreatDoor
namespace Go.Proofs.YtbikkioipamlmaaGreatDoor
open Go.RowKit
structure Reg where
  ver : Int
  slot : Int
  lay : Int
  seq : Int
  tail : Int
  now : Int
  l : Lay
def Reg.cells (r : Reg) : List Value := [.int .i64 r.ver, .int .i64 r.slot, .int .i64 r.lay, .int .i64 r.seq, .int .i64 r.tail, .int .i64 r.now, .int .i64 r.l.id, .int .i64 r.l.ver, .int .i64 r.l.rs, .int .i64 r.l.rg]
def LayAt (w : World) (b o : Nat) (l : Lay) : Prop :=
  w.cell? ⟨b, o, none⟩ = some (.int .i64 l.id) /\ w.cell? ⟨b, o + 1, none⟩ = some (.int .i64 l.ver) /\ w.cell? ⟨b, o + 2, none⟩ = some (.int .i64 l.rs) /\ w.cell? ⟨b, o + 3, none⟩ = some (.int .i64 l.rg)
theorem lit22 (r : Reg) (t : Lay) (tb ib : Nat) (i : Int) (w : World)
    (t0 : w.cell? ⟨tb, 0, none⟩ = some (.int .i64 t.id)) (t1 : w.cell? ⟨tb, 1, none⟩ = some (.int .i64 t.ver)) (t2 : w.cell? ⟨tb, 2, none⟩ = some (.int .i64 t.rs)) (t3 : w.cell? ⟨tb, 3, none⟩ = some (.int .i64 t.rg))
    (hi : w.cell? ⟨ib, 0, none⟩ = some (.int .i64 i)) :
    Calls prog 328 #[.agg #[.int .i64 r.ver, .int .i64 r.slot, .int .i64 r.lay, .int .i64 r.seq, .int .i64 r.tail, .int .i64 r.now, .int .i64 r.l.id, .int .i64 r.l.ver, .int .i64 r.l.rs, .int .i64 r.l.rg], .pointer (some ⟨tb, 0, none⟩), .pointer (some ⟨ib, 0, none⟩)] w
      fun e w' => e = .returned (.bool (overlapB t i r.l r.slot)) /\ Below w.heap.size w w' := by
  have lt1 := World.block_lt_of_cell? _ _ t0
  have lt2 := World.block_lt_of_cell? _ _ hi
  simp only at lt1 lt2
  go_enter Tryz.func328, Tryz.ntmps328
  go_wp2_with fail
  with_reducible refine (overlap8 _ _ _ _ _ _ _ _ _ _ _).mono ?_
  rintro e w1 ⟨rfl, hb⟩
  go_wp2_with fail
  go_ret
  exact ⟨rfl, bel1 hb⟩
def RegsAt (w : World) (a : Option Addr) (len : Nat) (f : Nat -> Reg) : Prop :=
  ∀ i, i < len -> ∃ b off, a = some ⟨b, off, none⟩ /\ b < w.heap.size /\ ∀ j, j < 10 -> w.cell? ⟨b, off + (i * 10 + j), none⟩ = (f i).cells[j]?
theorem RegsAt.below {w w' : World} {B : Nat} {a : Option Addr} {len : Nat} {f : Nat -> Reg} (h : RegsAt w a len f) (hb : Below B w w') (hB : w.heap.size <= B) : RegsAt w' a len f := by
  intro i hi
  obtain ⟨b, off, ha, hlt, hc⟩ := h i hi
  refine ⟨b, off, ha, Nat.lt_of_lt_of_le hlt hb.size, fun j hj => ?_⟩
  rw [hb.cell (by show b < B; omega)]; exact hc j hj
def RegCells (w : World) (b o : Nat) (r : Reg) : Prop :=
  w.cell? ⟨b, o, none⟩ = some (.int .i64 r.ver) /\ w.cell? ⟨b, o + 1, none⟩ = some (.int .i64 r.slot) /\ w.cell? ⟨b, o + 2, none⟩ = some (.int .i64 r.lay) /\ w.cell? ⟨b, o + 3, none⟩ = some (.int .i64 r.seq) /\ w.cell? ⟨b, o + 4, none⟩ = some (.int .i64 r.tail) /\ w.cell? ⟨b, o + 5, none⟩ = some (.int .i64 r.now) /\ w.cell? ⟨b, o + 6, none⟩ = some (.int .i64 r.l.id) /\ w.cell? ⟨b, o + 7, none⟩ = some (.int .i64 r.l.ver) /\ w.cell? ⟨b, o + 8, none⟩ = some (.int .i64 r.l.rs) /\ w.cell? ⟨b, o + 9, none⟩ = some (.int .i64 r.l.rg)
theorem RegsAt.at {w : World} {a : Option Addr} {len : Nat} {f : Nat -> Reg} (h : RegsAt w a len f) (i : Nat) (hi : i < len) : ∃ b off, a = some ⟨b, off, none⟩ /\ b < w.heap.size /\ RegCells w b (off + i * 10) (f i) := by
  obtain ⟨b, off, ha, hlt, hc⟩ := h i hi
  refine ⟨b, off, ha, hlt, ?_⟩
  have g : ∀ j, j < 10 -> w.cell? ⟨b, off + i * 10 + j, none⟩ = (f i).cells[j]? := fun j hj => by rw [Nat.add_assoc]; exact hc j hj
  exact ⟨g 0 (by omega), g 1 (by omega), g 2 (by omega), g 3 (by omega), g 4 (by omega), g 5 (by omega), g 6 (by omega), g 7 (by omega), g 8 (by omega), g 9 (by omega)⟩
def anyHit (t : Lay) (i : Int) (f : Nat -> Reg) : Nat -> Bool
  | 0 => false
  | k + 1 => anyHit t i f k || overlapB t i (f k).l (f k).slot
theorem index23 (a : Option Addr) (len cap : Nat) (f : Nat -> Reg) (t : Lay) (tb ib : Nat) (i0 : Int) (w : World) (hl : len <= 9223372036854775807) (hr : RegsAt w a len f)
    (t0 : w.cell? ⟨tb, 0, none⟩ = some (.int .i64 t.id)) (t1 : w.cell? ⟨tb, 1, none⟩ = some (.int .i64 t.ver)) (t2 : w.cell? ⟨tb, 2, none⟩ = some (.int .i64 t.rs)) (t3 : w.cell? ⟨tb, 3, none⟩ = some (.int .i64 t.rg))
    (hi : w.cell? ⟨ib, 0, none⟩ = some (.int .i64 i0)) :
    Calls prog 184 #[.slice a len cap, .func (.func 328) #[] #[.pointer (some ⟨tb, 0, none⟩), .pointer (some ⟨ib, 0, none⟩)]] w
      fun e w' => ∃ n : Int, e = .returned (.int .i64 n) /\ decide (0 <= n) = anyHit t i0 f len /\ Below w.heap.size w w' := by
  have lt1 := World.block_lt_of_cell? _ _ t0
  have lt2 := World.block_lt_of_cell? _ _ hi
  simp only at lt1 lt2
  have HR := hid hr
  have T := hid (⟨t0, t1, t2, t3, hi⟩ : _ /\ _ /\ _ /\ _ /\ _)
  clear hr t0 t1 t2 t3 hi
  go_enter Tryz.func184, Tryz.ntmps184
  go_wp2_with fail
  go_loopw [5, 8] (fun _ i wr => ∃ k : Nat, k <= len /\ i = .int .i64 k /\ anyHit t i0 f k = false /\ Below w.heap.size w wr) (fun _ i _ => len - (intOf i).toNat)
  case atStart => exact ⟨0, Nat.zero_le _, rfl, rfl, Below.refl _ _⟩
  case round =>
    obtain ⟨k, hk, rfl, hn, hb⟩ := hrel
    have HN := hid hn
    have B := hid hb
    clear hn hb
    by_cases hlt : k < len
    · obtain ⟨b, off, rfl, hlt2, hc⟩ := (HR.out.below B.out (Nat.le_refl _)).at k hlt
      obtain ⟨g0, g1, g2, g3, g4, g5, g6, g7, g8, g9⟩ := hc
      have hB := B.out
      obtain ⟨t0, t1, t2, t3, hi⟩ := T.out
      have HC := hid (lit22 (f k) t tb ib i0 wr (by rw [hB.cell lt1]; exact t0) (by rw [hB.cell lt1]; exact t1) (by rw [hB.cell lt1]; exact t2) (by rw [hB.cell lt1]; exact t3) (by rw [hB.cell lt2]; exact hi))
      clear hB t0 t1 t2 t3 hi
      go_wp2_with fail
      with_reducible refine HC.out.mono ?_
      rintro e w1 ⟨rfl, hb1⟩
      have B1 := hid (tB B.out hb1)
      clear hb1
      cases hX : overlapB t i0 (f k).l (f k).slot with
      | true =>
        have hany : anyHit t i0 f len = true := by
          have key : ∀ d, anyHit t i0 f (k + 1 + d) = true := by
            intro d
            induction d with
            | zero => show (anyHit t i0 f k || overlapB t i0 (f k).l (f k).slot) = true; rw [hX, Bool.or_true]
            | succ d ih => show (anyHit t i0 f (k + 1 + d) || _) = true; rw [ih, Bool.true_or]
          have := key (len - (k + 1))
          rwa [show k + 1 + (len - (k + 1)) = len from by omega] at this
        have HA := hid hany
        clear hany
        go_wp2_with fail
        go_ret
        exact ⟨(k : Int), rfl, by rw [HA.out]; simp, B1.out⟩
      | false =>
        have hn1 : anyHit t i0 f (k + 1) = false := by
          show (anyHit t i0 f k || overlapB t i0 (f k).l (f k).slot) = false
          rw [hX, HN.out]; rfl
        have HN1 := hid hn1
        clear hn1 hX
        go_wp2_with fail
        go_roundw
        case rel => exact ⟨k + 1, by omega, by go_num, HN1.out, B1.out⟩
        case measure => simp [intOf]; omega
    · obtain rfl : k = len := by omega
      go_wp2_with fail
      go_ret
      exact ⟨-1, rfl, by rw [HN.out]; rfl, B.out⟩
theorem own_below {w w' : World} {base : Nat} {e : TypeId} {size : Nat} {v : Value} {n : Nat} {xs : List Value} (h : w.ownsRow base e size v n xs) (hb : Below w.heap.size w w') : w'.ownsRow base e size v n xs := by
  refine ⟨h.1, ?_⟩
  rcases h.2 with h2 | ⟨g, cap, cur, hv, hg, hh, r⟩
  · exact .inl h2
  · refine .inr ⟨g, cap, cur, hv, hg, ?_, r⟩
    rw [hb.block g (Array.getElem?_eq_some_iff.1 hh).1]; exact hh
theorem contains21 (a : Option Addr) (len cap : Nat) (f : Nat -> Reg) (t : Lay) (tb ib : Nat) (i0 : Int) (w : World) (hl : len <= 9223372036854775807) (hr : RegsAt w a len f)
    (t0 : w.cell? ⟨tb, 0, none⟩ = some (.int .i64 t.id)) (t1 : w.cell? ⟨tb, 1, none⟩ = some (.int .i64 t.ver)) (t2 : w.cell? ⟨tb, 2, none⟩ = some (.int .i64 t.rs)) (t3 : w.cell? ⟨tb, 3, none⟩ = some (.int .i64 t.rg))
    (hi : w.cell? ⟨ib, 0, none⟩ = some (.int .i64 i0)) :
    Calls prog 125 #[.slice a len cap, .func (.func 328) #[] #[.pointer (some ⟨tb, 0, none⟩), .pointer (some ⟨ib, 0, none⟩)]] w
      fun e w' => e = .returned (.bool (anyHit t i0 f len)) /\ Below w.heap.size w w' := by
  have H := hid (index23 a len cap f t tb ib i0 w hl hr t0 t1 t2 t3 hi)
  clear hr t0 t1 t2 t3 hi
  go_enter Tryz.func125, Tryz.ntmps125
  go_wp2_with fail
  with_reducible refine H.out.mono ?_
  rintro e w1 ⟨n, rfl, hn, hb⟩
  have HN := hid hn
  clear hn
  go_wp2_with fail
  all_goals
    go_ret
    exact ⟨ret_bool HN.out, hb⟩
def freeL (t : Lay) (f : Nat -> Reg) (len : Nat) : Nat -> List Int
  | 0 => []
  | k + 1 => if anyHit t (k : Int) f len = true then freeL t f len k else freeL t f len k ++ [(k : Int)]
theorem freeL_len (t : Lay) (f : Nat -> Reg) (len k : Nat) : (freeL t f len k).length <= k := by
  induction k with
  | zero => simp [freeL]
  | succ k ih => unfold freeL; split <;> (try rw [List.length_append, List.length_singleton]) <;> omega
def freeD (t : Lay) (f : Nat -> Reg) (len : Nat) : List Int := if formB t = true then freeL t f len t.rg.toNat else []
theorem free17_no (id ver rs rg : Int) (a : Option Addr) (len cap : Nat) (w : World) (h : formB ⟨id, ver, rs, rg⟩ = false) :
    Calls prog 277 #[.agg #[.int .i64 id, .int .i64 ver, .int .i64 rs, .int .i64 rg], .slice a len cap] w (RetInts w []) := by
  have c1 := fun W => form20 id ver rs rg W
  rw [h] at c1
  have C1 := hid c1
  clear c1 h
  go_enter Tryz.func277, Tryz.ntmps277
  go_wp2_with fail
  with_reducible refine (C1.out _).mono ?_
  rintro e w1 ⟨rfl, hb⟩
  go_wp2_with fail
  go_ret
  exact ⟨_, rfl, World.ownsRow_nil _ _ _ _, bel1 hb⟩
theorem free17_yes (id ver rs : Int) (rg : Nat) (a : Option Addr) (len cap : Nat) (f : Nat -> Reg) (w : World) (h : formB ⟨id, ver, rs, (rg : Int)⟩ = true) (hl : len <= 9223372036854775807) (hr : RegsAt w a len f) :
    Calls prog 277 #[.agg #[.int .i64 id, .int .i64 ver, .int .i64 rs, .int .i64 (rg : Int)], .slice a len cap] w (RetInts w (freeL ⟨id, ver, rs, (rg : Int)⟩ f len rg)) := by
  have c1 := fun W => form20 id ver rs rg W
  obtain ⟨_, _, _, _, g1, g2⟩ := formB_rng h
  simp only at g1 g2
  rw [h] at c1
  have C1 := hid c1
  have HR := hid hr
  obtain ⟨i0, hi, hz0, hz1, hz2⟩ := info_parts intinfo
  have I1 := hid hi; have I2 := hid hz0; have I3 := hid hz1; have I4 := hid hz2
  clear c1 h hr hi hz0 hz1 hz2
  go_enter Tryz.func277, Tryz.ntmps277
  go_wp2_with fail
  with_reducible refine (C1.out _).mono ?_
  rintro e w1 ⟨rfl, hb⟩
  obtain ⟨hc, _⟩ := bcell hb
  go_wp2_with fail
  clear hc
  have hsz := hb.size
  simp at hsz
  have B0 := hid hb
  have L0 := hid (show Below w.heap.size w w1 from bel1 hb)
  clear hb
  go_loopw [5, 6, 12] (fun v _ j wr => ∃ k : Nat, k <= rg /\ j = .int .i64 k /\ (∃ n, wr.ownsRow (w.heap.size + 1) 3 1 v n ((freeL ⟨id, ver, rs, (rg : Int)⟩ f len k).map (Value.int .i64))) /\ Below (w.heap.size + 1) w1 wr) (fun _ _ j _ => rg - (intOf j).toNat)
  case atStart => exact ⟨0, Nat.zero_le _, rfl, ⟨0, World.ownsRow_nil _ _ _ _⟩, Below.refl _ _⟩
  case round =>
    obtain ⟨k, hk, rfl, ⟨n, hown⟩, hbr⟩ := hrel
    have hz := hbr.size
    have O := hid hown
    have B := hid hbr
    clear hown hbr
    by_cases hlt : k < rg
    · have hT := ((B0.out.mono (B' := w.heap.size + 1) (by simp)).trans B.out).alloc (by omega) (.cells #[.int .i64 (k : Int)] 3)
      have hW := (L0.out.trans (B.out.mono (by omega))).alloc (by omega) (.cells #[.int .i64 (k : Int)] 3)
      have HC := hid (contains21 a len cap f ⟨id, ver, rs, (rg : Int)⟩ w.heap.size wr.heap.size (k : Int) _ hl (HR.out.below hW (Nat.le_refl _)) (by rw [hT.cell (by simp)]; simp [go_sem]) (by rw [hT.cell (by simp)]; simp [go_sem]) (by rw [hT.cell (by simp)]; simp [go_sem]) (by rw [hT.cell (by simp)]; simp [go_sem]) (by simp [go_sem]))
      have HW := hid hW
      clear hT hW
      have hstep : freeL ⟨id, ver, rs, (rg : Int)⟩ f len (k + 1) = if anyHit ⟨id, ver, rs, (rg : Int)⟩ (k : Int) f len = true then freeL ⟨id, ver, rs, (rg : Int)⟩ f len k else freeL ⟨id, ver, rs, (rg : Int)⟩ f len k ++ [(k : Int)] := rfl
      have hln := freeL_len ⟨id, ver, rs, (rg : Int)⟩ f len k
      have hnn : (freeL ⟨id, ver, rs, (rg : Int)⟩ f len k).length = n := by have := O.out.1; simpa using this
      obtain ⟨l1, hl1⟩ : ∃ l1, freeL ⟨id, ver, rs, (rg : Int)⟩ f len (k + 1) = l1 := ⟨_, rfl⟩
      rw [hl1] at hstep
      have HL1 := hid hl1
      clear hl1
      generalize freeL ⟨id, ver, rs, (rg : Int)⟩ f len k = l0 at *
      generalize anyHit ⟨id, ver, rs, (rg : Int)⟩ (k : Int) f len = X at *
      have hnk : n <= k := by omega
      have HS := hid hstep
      clear hstep hln hnn
      go_wp2_with fail
      with_reducible refine HC.out.mono ?_
      rintro e w2 ⟨rfl, hb2⟩
      have hv : w2.cell? ⟨wr.heap.size, 0, none⟩ = some (.int .i64 (k : Int)) := by rw [hb2.cell (by simp)]; simp [go_sem]
      have hz2 := hb2.size
      simp at hz2
      have O2 := hid (own_below (O.out.alloc (.cells #[.int .i64 (k : Int)] 3)) hb2)
      have B2 := hid ((B.out.alloc (by omega) (.cells #[.int .i64 (k : Int)] 3)).trans (hb2.mono (by simp; omega)))
      clear hb2 O B HC HW
      cases X with
      | true =>
        have e1 : l1 = l0 := HS.out
        have HS1 := hid e1
        clear e1 HS
        go_wp2_with fail
        go_roundw
        case rel => exact ⟨k + 1, by omega, by go_num, ⟨n, by rw [HL1.out, HS1.out]; exact O2.out⟩, B2.out⟩
        case measure => simp [intOf]; omega
      | false =>
        have e1 : l1 = l0 ++ [(k : Int)] := HS.out
        have HS1 := hid e1
        clear e1 HS
        go_wp2_with (at_builtin; refine Stop.out ?_)
        refine Stop.of (wpList_app rfl _ _ 266 rfl (w.heap.size + 1) 3 i0 (.int .i64 0) 1 8 Tryz.underlying266 I1.out I2.out I3.out I4.out rfl (by decide) _ n _ rfl (O2.out.alloc _) (.slice (some ⟨w2.heap.size, 0, none⟩) 1 1) 1 [.int .i64 (k : Int)] rfl (src_lit #[.int .i64 (k : Int)] (0, 0) (heap_alloc_new w2 _) rfl) (ints_one .i64 [(k : Int)]) (by unfold maxLen; omega) (by omega) (by simp; omega) ?_)
        intro v3 w3 hown3 hg3
        rw [show l0.map (Value.int .i64) ++ [Value.int .i64 (k : Int)] = l1.map (Value.int .i64) from by rw [HS1.out]; simp] at hown3
        have B3 := hid ((B2.out.alloc (by omega) _).grown hg3 (by simp; omega) (fun j hj => (O2.out.lt j hj).1))
        have O3 := hid hown3
        clear hown3 hg3 B2 O2 hv
        go_wp2_with fail
        go_roundw
        case rel => exact ⟨k + 1, by omega, by go_num, ⟨n + 1, by rw [HL1.out]; exact O3.out⟩, B3.out⟩
        case measure => simp [intOf]; omega
    · obtain rfl : k = rg := by omega
      go_wp2_with fail
      go_ret
      refine ⟨_, rfl, ?_, L0.out.trans (B.out.mono (by omega))⟩
      have := Joins.ownsRow_le O.out (Nat.le_succ w.heap.size)
      have hn : n = (freeL ⟨id, ver, rs, (k : Int)⟩ f len k).length := by have := O.out.1; simp at this; omega
      rw [<- hn]; exact this
theorem free17 (t : Lay) (a : Option Addr) (len cap : Nat) (f : Nat -> Reg) (w : World) (hl : len <= 9223372036854775807) (hr : RegsAt w a len f) :
    Calls prog 277 #[.agg #[.int .i64 t.id, .int .i64 t.ver, .int .i64 t.rs, .int .i64 t.rg], .slice a len cap] w (RetInts w (freeD t f len)) := by
  obtain ⟨id, ver, rs, rg⟩ := t
  cases h : formB ⟨id, ver, rs, rg⟩ with
  | false =>
    have e : freeD ⟨id, ver, rs, rg⟩ f len = [] := by unfold freeD; rw [h]; rfl
    rw [e]; exact free17_no id ver rs rg a len cap w h
  | true =>
    have e : freeD ⟨id, ver, rs, rg⟩ f len = freeL ⟨id, ver, rs, rg⟩ f len rg.toNat := by unfold freeD; rw [if_pos h]
    rw [e]
    obtain ⟨_, _, _, _, g1, _⟩ := formB_rng h
    simp only at g1
    obtain ⟨g, rfl⟩ := Int.eq_ofNat_of_zero_le (show 0 <= rg by omega)
    exact free17_yes id ver rs g a len cap f w h hl hr
def cmpI (a b : Int) : Int := if a < b then -1 else if b < a then 1 else 0
def ltS (a b : ByteArray) : Bool := Op.bytesLess a.toList b.toList
def cmpS (a b : ByteArray) : Int := if ltS a b = true then -1 else if a.toList = b.toList then 0 else 1
theorem ret_int' {k : IntKind} {a b : Int} (h : a = b) : Ending.returned (.int k a) = .returned (.int k b) := by rw [h]
theorem cmpint (a b : Int) (w : World) : Calls prog 187 #[.int .i64 a, .int .i64 b] w fun e w' => e = .returned (.int .i64 (cmpI a b)) /\ w = w' := by
  go_enter Tryz.func187, Tryz.ntmps187
  go_wp2
  all_goals
    go_ret
    refine ⟨ret_int' ?_, rfl⟩
    unfold cmpI
    repeat' split
    all_goals omega
theorem cmpstr (a b : ByteArray) (w : World) : Calls prog 183 #[.string a, .string b] w fun e w' => e = .returned (.int .i64 (cmpS a b)) /\ w = w' := by
  have h1 : ∀ x, cmpS a b = x -> cmpS a b = x := fun _ h => h
  cases hb : Op.bytesLess a.toList b.toList with
  | true =>
    have e : cmpS a b = -1 := by unfold cmpS ltS; rw [if_pos hb]
    have E := hid e
    clear e h1
    go_enter Tryz.func183, Tryz.ntmps183
    go_wp2
    go_ret
    exact ⟨ret_int' E.out.symm, rfl⟩
  | false =>
    by_cases he : a.toList = b.toList
    · have d : (!a.toList == b.toList) = false := by rw [he]; simp
      have e : cmpS a b = 0 := by unfold cmpS ltS; rw [if_neg (by rw [hb]; simp), if_pos he]
      have E := hid e
      clear e h1 he
      go_enter Tryz.func183, Tryz.ntmps183
      go_wp2
      go_ret
      exact ⟨ret_int' E.out.symm, rfl⟩
    · have d : (!a.toList == b.toList) = true := by simp [he]
      have e : cmpS a b = 1 := by unfold cmpS ltS; rw [if_neg (by rw [hb]; simp), if_neg he]
      have E := hid e
      clear e h1 he
      go_enter Tryz.func183, Tryz.ntmps183
      go_wp2
      go_ret
      exact ⟨ret_int' E.out.symm, rfl⟩
def orD (x y : Int) : Int := if x = 0 then y else x
theorem orint (a : Option Addr) (cap : Nat) (x y : Int) (w : World) (he : Elems .i64 w a 2 [x, y]) : Calls prog 197 #[.slice a 2 cap] w fun e w' => e = .returned (.int .i64 (orD x y)) /\ w = w' := by
  obtain ⟨b, o, rfl, _, h0⟩ := he 0 (by omega)
  obtain ⟨b', o', ha, _, h1⟩ := he 1 (by omega)
  simp only [Option.some.injEq, Addr.mk.injEq, and_true] at ha
  obtain ⟨rfl, rfl⟩ := ha
  clear he
  simp only [List.getElem?_cons_zero, List.getElem?_cons_succ, Option.getD_some, Nat.add_zero] at h0 h1
  go_enter Tryz.func197, Tryz.ntmps197
  go_wp2
  go_loop [5, 8] (fun _ i => (i = .int .i64 0) \/ (i = .int .i64 1 /\ x = 0) \/ (i = .int .i64 2 /\ x = 0 /\ y = 0)) (fun _ i => 2 - (intOf i).toNat)
  case atStart => exact .inl rfl
  case round =>
    have H1 := hid h1
    have H0 := hid h0
    clear h0 h1
    rcases hrel with rfl | ⟨rfl, hx⟩ | ⟨rfl, hx, hy⟩
    · have h0 := H0.out
      by_cases hx : x = 0
      · subst hx
        go_wp2
        go_round
        case rel => simp
        case measure => simp [intOf]
      · have hx' : (!x == 0) = true := by simp [hx]
        go_wp2
        all_goals
          go_ret
          exact ⟨ret_int' (by unfold orD; rw [if_neg hx]), rfl⟩
    · have h1 := H1.out
      subst hx
      by_cases hy : y = 0
      · subst hy
        go_wp2
        go_round
        case rel => simp
        case measure => simp [intOf]
      · go_wp2
        all_goals
          go_ret
          exact ⟨ret_int' (by simp [orD]), rfl⟩
    · subst hx hy
      go_wp2
      go_ret
      exact ⟨ret_int' (by simp [orD]), rfl⟩
end Go.Proofs.YtbikkioipamlmaaGreatDoor
namespace Go.Proofs.YtbikkioipamlmaaGreatDoor.L21
open Go.RowKit
def insR : List Reg -> Reg -> List Reg
  | [], r => [r]
  | x :: l, r => if r.seq < x.seq then r :: x :: l else x :: insR l r
def sortR (l : List Reg) : List Reg := l.foldl insR []
theorem insR_perm (l : List Reg) (r : Reg) : (insR l r).Perm (r :: l) := by
  induction l with
  | nil => exact .refl _
  | cons x l ih =>
    unfold insR
    split
    · exact .refl _
    · exact ((ih.cons x).trans (.swap r x l))
def SortedR (l : List Reg) : Prop := l.Pairwise (fun a b => a.seq <= b.seq)
theorem insR_sorted {l : List Reg} (r : Reg) (h : SortedR l) : SortedR (insR l r) := by
  unfold SortedR at *
  induction l with
  | nil => simp [insR]
  | cons x l ih =>
    rw [List.pairwise_cons] at h
    unfold insR
    split
    · rename_i hlt
      rw [List.pairwise_cons, List.pairwise_cons]
      refine ⟨fun y hy => ?_, h⟩
      rcases List.mem_cons.1 hy with rfl | hy
      · omega
      · have := h.1 y hy; omega
    · rename_i hlt
      rw [List.pairwise_cons]
      refine ⟨fun y hy => ?_, ih h.2⟩
      rcases List.mem_cons.1 ((insR_perm l r).mem_iff.1 hy) with rfl | hy
      · omega
      · exact h.1 y hy
theorem sort_step (l : List Reg) (r : Reg) : sortR (l ++ [r]) = insR (sortR l) r := by unfold sortR; rw [List.foldl_append]; rfl
theorem sort_acc (l : List Reg) : ∀ acc, SortedR acc -> SortedR (l.foldl insR acc) /\ (l.foldl insR acc).Perm (acc ++ l) := by
  induction l with
  | nil => intro acc h; exact ⟨h, by simp⟩
  | cons r l ih =>
    intro acc h
    obtain ⟨h1, h2⟩ := ih (insR acc r) (insR_sorted r h)
    refine ⟨h1, h2.trans ?_⟩
    exact ((insR_perm acc r).append_right l).trans List.perm_middle.symm
theorem sort_all (l : List Reg) : SortedR (sortR l) /\ (sortR l).Perm l /\ (sortR l).length = l.length := by
  obtain ⟨h1, h2⟩ := sort_acc l [] .nil
  exact ⟨h1, by simpa [sortR] using h2, by have := h2.length_eq; simpa [sortR] using this⟩
theorem ins_at {S : List Reg} {r : Reg} (h : SortedR S) : ∀ (j : Nat), j <= S.length -> (∀ x ∈ S.drop j, r.seq < x.seq) -> (∀ x ∈ S.take j, x.seq <= r.seq) -> S.take j ++ r :: S.drop j = insR S r := by
  induction S with
  | nil => intro j hj _ _; simp at hj; subst hj; rfl
  | cons x S ih =>
    intro j hj h1 h2
    cases j with
    | zero =>
      have := h1 x (by simp)
      simp only [List.take_zero, List.drop_zero, List.nil_append]
      unfold insR
      rw [if_pos this]
    | succ j =>
      have := h2 x (by simp)
      rw [List.take_succ_cons, List.drop_succ_cons, List.cons_append]
      rw [ih (List.pairwise_cons.1 h).2 j (by simpa using hj) (fun y hy => h1 y (by simpa using hy)) (fun y hy => h2 y (by rw [List.take_succ_cons]; exact List.mem_cons_of_mem _ hy))]
      conv => rhs; unfold insR
      rw [if_neg (by omega)]
theorem ins_stop {S : List Reg} {r : Reg} (h : SortedR S) (j : Nat) (x : Reg) (hx : S[j]? = some x) (hle : x.seq <= r.seq) : ∀ y ∈ S.take (j + 1), y.seq <= r.seq := by
  intro y hy
  obtain ⟨i, hi, e⟩ := List.getElem_of_mem hy
  rw [List.length_take] at hi
  rw [List.getElem_take] at e
  obtain ⟨hj, ex⟩ := List.getElem?_eq_some_iff.1 hx
  rcases Nat.lt_or_ge i j with hij | hij
  · have := List.pairwise_iff_getElem.1 h i j (by omega) hj hij
    rw [e, ex] at this
    omega
  · have : i = j := by omega
    subst this
    rw [ex] at e; subst e; exact hle
def midR (S : List Reg) (r : Reg) (j : Nat) (rest : List Reg) : List Reg := S.take j ++ r :: S.drop j ++ rest
theorem midR_at {S : List Reg} {r x : Reg} {j : Nat} {rest : List Reg} (hx : S[j]? = some x) : (midR S r (j + 1) rest)[j + 1]? = some r /\ (midR S r (j + 1) rest)[j]? = some x /\ ((midR S r (j + 1) rest).set (j + 1) x).set j r = midR S r j rest := by
  obtain ⟨hj, ex⟩ := List.getElem?_eq_some_iff.1 hx
  have e : S = S.take j ++ x :: S.drop (j + 1) := by
    rw [<- ex, List.getElem_cons_drop, List.take_append_drop]
  have hl : (S.take j).length = j := by rw [List.length_take]; omega
  have e2 : midR S r (j + 1) rest = S.take j ++ x :: r :: (S.drop (j + 1) ++ rest) := by
    unfold midR
    rw [List.take_add_one, hx]
    simp
  have e3 : midR S r j rest = S.take j ++ r :: x :: (S.drop (j + 1) ++ rest) := by
    unfold midR
    have : S.drop j = x :: S.drop (j + 1) := by rw [<- ex, List.getElem_cons_drop]
    rw [this]; simp
  rw [e2, e3]
  refine ⟨?_, ?_, ?_⟩
  · rw [List.getElem?_append_right (by omega), hl]; simp
  · rw [List.getElem?_append_right (by omega), hl]; simp
  · rw [List.set_append_right _ _ (by omega), hl, List.set_append_right _ _ (by omega), hl]; simp
def regC : List Reg -> List Value
  | [] => []
  | r :: l => r.cells ++ regC l
theorem reg_len (r : Reg) : r.cells.length = 10 := rfl
theorem regC_len (l : List Reg) : (regC l).length = l.length * 10 := by
  induction l with
  | nil => rfl
  | cons p l ih => simp only [regC, List.length_append, reg_len, ih, List.length_cons]; omega
theorem regC_at (l : List Reg) (i : Nat) (p : Reg) (h : l[i]? = some p) (j : Nat) (hj : j < 10) : (regC l)[i * 10 + j]? = p.cells[j]? := by
  induction l generalizing i with
  | nil => simp at h
  | cons q l ih =>
    cases i with
    | zero =>
      simp at h; subst h
      rw [Nat.zero_mul, Nat.zero_add]
      show (q.cells ++ regC l)[j]? = _
      rw [List.getElem?_append_left (by rw [reg_len]; exact hj)]
    | succ i =>
      have h' : l[i]? = some p := by simpa using h
      have := ih i h'
      show (q.cells ++ regC l)[(i + 1) * 10 + j]? = _
      rw [List.getElem?_append_right (by rw [reg_len]; omega), reg_len, show (i + 1) * 10 + j - 10 = i * 10 + j from by omega]
      exact this
def set10 (w : World) (g i : Nat) (p : Reg) : World :=
  (((((((((w.setCell ⟨g, i * 10, none⟩ (.int .i64 p.ver)).setCell ⟨g, i * 10 + 1, none⟩ (.int .i64 p.slot)).setCell ⟨g, i * 10 + 2, none⟩ (.int .i64 p.lay)).setCell ⟨g, i * 10 + 3, none⟩ (.int .i64 p.seq)).setCell ⟨g, i * 10 + 4, none⟩ (.int .i64 p.tail)).setCell ⟨g, i * 10 + 5, none⟩ (.int .i64 p.now)).setCell ⟨g, i * 10 + 6, none⟩ (.int .i64 p.l.id)).setCell ⟨g, i * 10 + 7, none⟩ (.int .i64 p.l.ver)).setCell ⟨g, i * 10 + 8, none⟩ (.int .i64 p.l.rs)).setCell ⟨g, i * 10 + 9, none⟩ (.int .i64 p.l.rg)
theorem regC_set (l : List Reg) (i : Nat) (p : Reg) : regC (l.set i p) = ((((((((((regC l).set (i * 10) (.int .i64 p.ver)).set (i * 10 + 1) (.int .i64 p.slot)).set (i * 10 + 2) (.int .i64 p.lay)).set (i * 10 + 3) (.int .i64 p.seq)).set (i * 10 + 4) (.int .i64 p.tail)).set (i * 10 + 5) (.int .i64 p.now)).set (i * 10 + 6) (.int .i64 p.l.id)).set (i * 10 + 7) (.int .i64 p.l.ver)).set (i * 10 + 8) (.int .i64 p.l.rs)).set (i * 10 + 9) (.int .i64 p.l.rg) := by
  induction l generalizing i with
  | nil => simp [regC]
  | cons q l ih =>
    cases i with
    | zero => rfl
    | succ i =>
      have e : ∀ j, (i + 1) * 10 + j = (i * 10 + j) + 1 + 1 + 1 + 1 + 1 + 1 + 1 + 1 + 1 + 1 := fun j => by omega
      have e0 : (i + 1) * 10 = (i * 10) + 1 + 1 + 1 + 1 + 1 + 1 + 1 + 1 + 1 + 1 := by omega
      rw [List.set_cons_succ]
      show q.cells ++ regC (l.set i p) = _
      rw [ih, e 1, e 2, e 3, e 4, e 5, e 6, e 7, e 8, e 9, e0]
      rfl
theorem grown_trR {a b c : World} {r : Option Nat} (h : a.grownBy b r) (k : b.grownBy c r) : a.grownBy c r :=
  ⟨k.os.trans h.os, k.tape.trans h.tape, k.output.trans h.output, Nat.le_trans h.size k.size, fun j hj hne => (k.block j (Nat.lt_of_lt_of_le hj h.size) hne).trans (h.block j hj hne)⟩
theorem own_set10 {w : World} {g cap n : Nat} {l : List Reg} (h : w.ownsRow 0 68 10 (.slice (some ⟨g, 0, none⟩) n cap) n (regC l)) (i : Nat) (p : Reg) :
    (set10 w g i p).ownsRow 0 68 10 (.slice (some ⟨g, 0, none⟩) n cap) n (regC (l.set i p)) /\ Fr (fun j => j = g) w (set10 w g i p) := by
  obtain ⟨s0, g0⟩ := h.stored (i * 10) (.int .i64 p.ver)
  obtain ⟨s1, g1⟩ := s0.stored (i * 10 + 1) (.int .i64 p.slot)
  obtain ⟨s2, g2⟩ := s1.stored (i * 10 + 2) (.int .i64 p.lay)
  obtain ⟨s3, g3⟩ := s2.stored (i * 10 + 3) (.int .i64 p.seq)
  obtain ⟨s4, g4⟩ := s3.stored (i * 10 + 4) (.int .i64 p.tail)
  obtain ⟨s5, g5⟩ := s4.stored (i * 10 + 5) (.int .i64 p.now)
  obtain ⟨s6, g6⟩ := s5.stored (i * 10 + 6) (.int .i64 p.l.id)
  obtain ⟨s7, g7⟩ := s6.stored (i * 10 + 7) (.int .i64 p.l.ver)
  obtain ⟨s8, g8⟩ := s7.stored (i * 10 + 8) (.int .i64 p.l.rs)
  obtain ⟨s9, g9⟩ := s8.stored (i * 10 + 9) (.int .i64 p.l.rg)
  rw [regC_set]
  exact ⟨s9, .of_grown (grown_trR (grown_trR (grown_trR (grown_trR (grown_trR (grown_trR (grown_trR (grown_trR (grown_trR g0 g1) g2) g3) g4) g5) g6) g7) g8) g9) (by rintro k e; cases e; rfl)⟩
theorem own_reg {w : World} {g cap n : Nat} {l : List Reg} (h : w.ownsRow 0 68 10 (.slice (some ⟨g, 0, none⟩) n cap) n (regC l)) (i : Nat) (p : Reg) (hp : l[i]? = some p) :
    (w.cell? ⟨g, i * 10, none⟩ = some (.int .i64 p.ver) /\ w.cell? ⟨g, i * 10 + 1, none⟩ = some (.int .i64 p.slot) /\ w.cell? ⟨g, i * 10 + 2, none⟩ = some (.int .i64 p.lay) /\ w.cell? ⟨g, i * 10 + 3, none⟩ = some (.int .i64 p.seq) /\ w.cell? ⟨g, i * 10 + 4, none⟩ = some (.int .i64 p.tail) /\
      w.cell? ⟨g, i * 10 + 5, none⟩ = some (.int .i64 p.now) /\ w.cell? ⟨g, i * 10 + 6, none⟩ = some (.int .i64 p.l.id) /\ w.cell? ⟨g, i * 10 + 7, none⟩ = some (.int .i64 p.l.ver) /\ w.cell? ⟨g, i * 10 + 8, none⟩ = some (.int .i64 p.l.rs) /\ w.cell? ⟨g, i * 10 + 9, none⟩ = some (.int .i64 p.l.rg)) /\
    ∀ j, w.frozen? ⟨g, j, none⟩ = false := by
  have hi := (List.getElem?_eq_some_iff.1 hp).1
  have hl : (regC l).length = n * 10 := h.1
  rw [regC_len] at hl
  have c : ∀ j, j < 10 -> w.cell? ⟨g, i * 10 + j, none⟩ = p.cells[j]? := fun j hj => by
    rw [h.cellAt (i * 10 + j) (by omega), regC_at l i p hp j hj]
  exact ⟨⟨c 0 (by omega), c 1 (by omega), c 2 (by omega), c 3 (by omega), c 4 (by omega), c 5 (by omega), c 6 (by omega), c 7 (by omega), c 8 (by omega), c 9 (by omega)⟩, fun j => h.frozenAt j⟩
end Go.Proofs.YtbikkioipamlmaaGreatDoor.L21
