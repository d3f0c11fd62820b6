/-
  The reference's Due.
-/
import Derived.Test.YtmbjkkoennadkaaRefQ2
import Derived.Test.YtmbjkkoennadkaaDue
namespace Go.Proofs.Ytmbjkkoennadkaa
open Go.RowKit Go.Maps
set_option linter.unusedVariables false
/-- the object, its slice without the first element -/
theorem RL.rest {w w2 : World} {bm n g off cap : Nat} {t : TypeId} {x : Item} {L : List Item} {S : Nat → Prop} (p : RLp w bm t 2 (n + 1) (itemCells (x :: L)) (some ⟨g, off, none⟩) cap) (hn : L.length = n) (hf : Fr S w w2) (hS : ¬ S bm ∧ ¬ S g) (a : Option Addr) (ha : a = if cap = 1 then some ⟨g, off, none⟩ else some ⟨g, off + 2, none⟩) :
    RLp (w2.setCell ⟨bm, 0, none⟩ (.slice a n (cap - 1))) bm t 2 n (itemCells L) a (cap - 1) := by
  obtain ⟨hb, hv, hl, h1, h2, _, h4⟩ := p
  obtain ⟨g', off', e, hne, hg⟩ := h4 _ rfl
  cases e
  have hbm := (Array.getElem?_eq_some_iff.1 hb).1
  have hblk : w2.heap[bm]? = some (.cells #[.slice (some ⟨g, off, none⟩) (n + 1) cap] t (0, 0)) := (hf.block bm hbm hS.1).trans hb
  have hsz : (w2.setCell ⟨bm, 0, none⟩ (.slice a n (cap - 1))).heap.size = w2.heap.size := by simp [World.setCell]
  have hv2 : Vals w2 (some ⟨g, off + 2, none⟩) (itemCells L) := by
    have := (hv.fr hf (fun b o e => by cases e; exact hS.2)).drop 2
    simpa [itemCells] using this
  have hfr : Fr (fun k => k = bm) w2 (w2.setCell ⟨bm, 0, none⟩ (.slice a n (cap - 1))) := ⟨rfl, rfl, rfl, by omega, fun k hk hn => Below.heap_setCell _ _ _ _ hn⟩
  have hs := hf.size
  refine ⟨by rw [blk_set hblk]; rfl, ?_, by rw [itemCells_length, hn], by omega, by omega, (fun e => by rw [ha] at e; split at e <;> cases e), fun y hy => ?_⟩
  · have hvA : Vals w2 a (itemCells L) := by
      rw [ha]
      split
      · have : L = [] := List.length_eq_zero_iff.1 (by omega)
        rw [this]; exact Vals.nil
      · exact hv2
    exact hvA.fr hfr (S := fun k => k = bm) (fun b o e => by rw [ha] at e; split at e <;> (cases e; exact hne))
  · rw [ha] at hy
    split at hy <;> (cases hy; exact ⟨_, _, rfl, hne, by rw [hsz]; omega⟩)
theorem rest_R {g off cap bm : Nat} {a : Option Addr} (ha : a = if cap = 1 then some ⟨g, off, none⟩ else some ⟨g, off + 2, none⟩) : (fun k => k = bm ∨ ∃ off, a = some ⟨k, off, none⟩) = fun k => k = bm ∨ ∃ o, some (⟨g, off, none⟩ : Addr) = some ⟨k, o, none⟩ := by
  funext k
  rw [ha]
  apply propext
  split <;> simp
theorem keysV_snoc (L : List Item) (x : Item) : keysV (L ++ [x]) = keysV L ++ [.string x.key] := by simp [keysV]
theorem due_step {w wr w2 : World} {bm n g off cap c : Nat} {t e : TypeId} {x : Item} {L L1 L3 : List Item} {R : Nat → Prop} {now : Int} {v2 : Value} {a : Option Addr} (hf : Fr (fun k => k = bm) w wr) (hbw : bm < w.heap.size) (hgw : g < w.heap.size) (hgne : g ≠ bm)
    (hE : early L now = L1 ++ early (x :: L3) now) (hT : late L now = late (x :: L3) now) (hln : L1.length + (x :: L3).length = L.length) (hn : L3.length = n)
    (hR : R = fun k => k = bm ∨ ∃ o, some (⟨g, off, none⟩ : Addr) = some ⟨k, o, none⟩) (p : RLp wr bm t 2 (n + 1) (itemCells (x :: L3)) (some ⟨g, off, none⟩) cap) (hx : x.at' ≤ now)
    (hf2 : Fr (fun k => w.heap.size ≤ k) wr w2) (ho : w2.ownsRow w.heap.size e 1 v2 (L1.length + 1) (keysV L1 ++ [.string x.key])) (ha : a = if cap = 1 then some ⟨g, off, none⟩ else some ⟨g, off + 2, none⟩) (hc : c = cap - 1) :
    ∃ L1' L2', L2'.length = n ∧ early L now = L1' ++ early L2' now ∧ late L now = late L2' now ∧ L1'.length + L2'.length = L.length ∧
      (w2.setCell ⟨bm, 0, none⟩ (.slice a n c)).ownsRow w.heap.size e 1 v2 L1'.length (keysV L1') ∧ RL (w2.setCell ⟨bm, 0, none⟩ (.slice a n c)) bm t 2 L2'.length (itemCells L2') R ∧ Fr (fun k => k = bm) w (w2.setCell ⟨bm, 0, none⟩ (.slice a n c)) := by
  subst hc
  obtain ⟨e1, e2⟩ := late_go (x := x) (L := L3) hx
  have hsz : (w2.setCell ⟨bm, 0, none⟩ (.slice a n (cap - 1))).heap.size = w2.heap.size := by simp [World.setCell]
  have hfr : Fr (fun k => k = bm) w2 (w2.setCell ⟨bm, 0, none⟩ (.slice a n (cap - 1))) := ⟨rfl, rfl, rfl, by omega, fun k hk hn => Below.heap_setCell _ _ _ _ hn⟩
  refine ⟨L1 ++ [x], L3, hn, by rw [hE, e1]; simp, by rw [hT, e2], by simp at hln ⊢; omega, ?_, ⟨a, cap - 1, ?_, ?_⟩, ?_⟩
  · rw [keysV_snoc, List.length_append]
    exact own_fr ho hfr (fun j hj hs => by have := (ho.lt j hj).1; omega)
  · rw [hn]
    exact RL.rest p hn hf2 ⟨by omega, by omega⟩ a ha
  · rw [hR, rest_R ha]
  · exact (hf.trans hf2 (fun j hj => .inr hj)).trans hfr (fun j hj => .inl hj)
set_option maxRecDepth 100000 in
set_option maxHeartbeats 4000000 in
theorem rdue16 (bm : Nat) (R : Nat → Prop) (L : List Item) (now : Int) (w : World) (hL : L.length ≤ 1000) (h : RL w bm 39 2 L.length (itemCells L) R) :
    Calls Try.prog 16 #[.pointer (some ⟨bm, 0, none⟩), .int .i64 now] w fun e w' =>
      ∃ sl, e = .returned sl ∧ w'.ownsRow w.heap.size 9 1 sl (early L now).length (keysV (early L now)) ∧ RL w' bm 39 2 (late L now).length (itemCells (late L now)) R ∧ Fr (fun k => k = bm) w w' := by
  obtain ⟨i0, hi, hz0, hz1, hz2⟩ := info_parts strinfo
  have I1 := Lib.hid hi; have I2 := Lib.hid hz0; have I3 := Lib.hid hz1; have I4 := Lib.hid hz2
  have HH := Lib.hid h
  clear h hi hz0 hz1 hz2
  go_enter Try.func16, Try.ntmps16
  go_wp2_with fail
  go_loopg [5] L.length (fun gk sl wr => ∃ L1 L2, L2.length = gk ∧ early L now = L1 ++ early L2 now ∧ late L now = late L2 now ∧ L1.length + L2.length = L.length ∧ wr.ownsRow w.heap.size 9 1 sl L1.length (keysV L1) ∧
      RL wr bm 39 2 L2.length (itemCells L2) R ∧ Fr (fun k => k = bm) w wr)
  case atStart => exact ⟨[], L, rfl, rfl, rfl, Nat.zero_add _, own_nil _ _ _ _, HH.out, Fr.refl _ _⟩
  case round =>
    obtain ⟨L1, L2, hgk, he, hl, hln, hrow, hr, hf⟩ := hrel
    have HGK := Lib.hid hgk
    have HE := Lib.hid he
    have HL := Lib.hid hl
    have ROW := Lib.hid hrow
    have HR := Lib.hid hr
    have HF := Lib.hid hf
    have hwz := hf.size
    have hb1 : L1.length ≤ 1000 := by omega
    have hb2 : L2.length ≤ 1000 := by omega
    have HLN := Lib.hid hln
    obtain ⟨a, cap, p, hR⟩ := hr
    have HRR := Lib.hid hR
    have c0 := blk_cell (i := 0) p.blk
    have f0 := blk_free (i := 0) p.blk
    simp only [List.getElem?_toArray, List.getElem?_cons_zero] at c0
    have hbm := blk_lt p.blk
    have hbw := HH.out.lt bm (by obtain ⟨_, _, _, e⟩ := HH.out; rw [e]; exact .inl rfl)
    have hle := p.le
    have hmax := p.max
    unfold maxLen at hmax
    have P := Lib.hid p
    clear hgk he hl hln hrow hf hR p
    cases L2 with
    | nil =>
      simp only [List.length_nil] at c0
      have E := Lib.hid (late_stop (L := []) (now := now) (.inl rfl))
      go_wp2_with fail
      go_ret
      exact ⟨_, rfl, by rw [HE.out, E.out.1, List.append_nil]; exact ROW.out, by rw [HL.out, E.out.2]; exact HR.out, HF.out⟩
    | cons x L3 =>
      obtain ⟨n, hn⟩ : ∃ n, L3.length = n := ⟨_, rfl⟩
      have HN := Lib.hid hn
      rw [List.length_cons, hn] at c0 hle hb2
      have P' : Hid (RLp wr bm 39 2 (n + 1) (itemCells (x :: L3)) a cap) := Lib.hid (by have := P.out; rwa [List.length_cons, hn] at this)
      clear hn P
      obtain ⟨g, off, rfl, hg, e0⟩ := P'.out.vals.at 0 (v := .string x.key) rfl
      obtain ⟨g', off', ha', _, e1⟩ := P'.out.vals.at 1 (v := .int .i64 x.at') rfl
      simp only [Option.some.injEq, Addr.mk.injEq, and_true] at ha'
      obtain ⟨rfl, rfl⟩ := ha'
      simp only [Nat.add_zero] at e0
      have hn0 : (0 : Int) < n + 1 := by omega
      by_cases hx : x.at' ≤ now
      · have E := Lib.hid (late_go (x := x) (L := L3) hx)
        have hcap : (1 : Int) ≤ cap := by omega
        go_wp2_with (at_builtin; refine Stop.out ?_)
        refine Stop.of (wpList_app rfl _ _ 22 rfl w.heap.size 9 i0 (.string ByteArray.empty) 1 16 Try.underlying22 I1.out I2.out I3.out I4.out rfl (by decide) _ _ _ rfl (ROW.out.alloc _) _ 1 [.string x.key] rfl (src_lit #[.string x.key] (0, 0) (heap_alloc_new wr _) rfl) (by intro u hu; simp at hu; subst hu; rfl) (by unfold maxLen; omega) (by omega) (by simp; omega) ?_)
        intro v2 w2 hown2 hg2
        have F2 : Fr (fun k => w.heap.size ≤ k) wr w2 := (Fr.of_below (S := fun k => w.heap.size ≤ k) ((Below.refl _ _).alloc (Nat.le_refl _) _)).trans (.of_grown (S := fun k => w.heap.size ≤ k) hg2 (fun j e => (ROW.out.lt j e).1)) (fun _ e => .inl e)
        have hgne := Lib.hid (show g ≠ bm by obtain ⟨g', off', e, hne, _⟩ := P'.out.plain _ rfl; cases e; exact hne)
        have hgw : g < w.heap.size := HH.out.lt g (by rw [HRR.out]; exact .inr ⟨off, rfl⟩)
        have c2 : w2.cell? ⟨bm, 0, none⟩ = some (.slice (some ⟨g, off, none⟩) (n + 1) cap) := (World.cell?_of_block (a := ⟨bm, 0, none⟩) (F2.block bm hbm (by omega))).trans c0
        have f2 : w2.frozen? ⟨bm, 0, none⟩ = false := (World.frozen?_of_block (a := ⟨bm, 0, none⟩) (F2.block bm hbm (by omega))).trans f0
        have HF2 := Lib.hid F2
        have O2 := Lib.hid hown2
        clear F2 hown2 hg2 c0 f0 e0 e1
        go_wp2_with fail
        all_goals
          go_roundg n
          case measure => have := HGK.out; have := HN.out; simp at *; omega
          case rel => exact due_step HF.out hbw hgw hgne.out HE.out HL.out HLN.out HN.out HRR.out P'.out hx HF2.out O2.out (by first | (rw [if_pos (by assumption)]) | (rw [if_neg (by assumption)])) (by omega)
      · have E := Lib.hid (late_stop (L := x :: L3) (now := now) (.inr (by simp [nextA]; omega)))
        go_wp2_with fail
        go_ret
        exact ⟨_, rfl, by rw [HE.out, E.out.1, List.append_nil]; exact ROW.out, by rw [HL.out, E.out.2]; exact HR.out, HF.out⟩
end Go.Proofs.Ytmbjkkoennadkaa
