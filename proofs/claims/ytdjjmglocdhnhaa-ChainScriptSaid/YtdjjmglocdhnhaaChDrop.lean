/-
  Drop; the calls on a nil chain.
-/
import Derived.Test.YtdjjmglocdhnhaaChItems
namespace Go.Proofs.Ytdjjmglocdhnhaa
open Go.RowKit Go.Maps
set_option linter.unusedVariables false
theorem ChStep.pre {w w1 w' : World} {cb N : Nat} {L' : List It} {R : Nat → Prop} (hb : Below w.heap.size w w1) (h : ChStep w1 w' cb N L' R) : ChStep w w' cb N L' R := by
  obtain ⟨R', h1, h2, h3⟩ := h
  exact ⟨R', h1, (Fr.of_below hb).trans h2 (fun j hj => .inl hj), fun j hj => (h3 j hj).imp id (fun e => Nat.le_trans hb.size e)⟩
def DropE (w : World) (cb N : Nat) (L : List It) (R : Nat → Prop) (s : Int) (e : Ending) (w' : World) : Prop :=
  ∃ v, e = .returned v ∧ w'.ownsRow w.heap.size 32 2 v (itsI L s).length ((itsI L s).flatMap itC2) ∧ ChStep w w' cb N (dropI L s) R
set_option maxRecDepth 100000 in
set_option maxHeartbeats 1000000 in
theorem drop9 (cb N : Nat) (R : Nat → Prop) (L : List It) (s : Int) (w : World) (hs : (Lit.int .i64 s).wf = true) (hL : L.length ≤ 100000) (hA : AscI L) (h : Ch w cb N L R) :
    Calls Try.prog 9 #[.pointer (some ⟨cb, 0, none⟩), .int .i64 s] w (DropE w cb N L R s) := by
  have IT := Lib.hid (items8 cb N R L s w hs hL hA h)
  have KS := Lib.hid (keyI hs)
  have CH := Lib.hid h
  have hlt := h.lt
  have HLT := Lib.hid hlt
  clear h hA hs hlt
  go_enter Try.func9, Try.ntmps9
  go_wp2_with fail
  with_reducible refine IT.out.mono ?_
  rintro e w1 ⟨v, rfl, ho, hb⟩
  obtain ⟨ob, no, D, bl, p, hR⟩ := CH.out.below hb
  have c0 := blk_cell (i := 0) p.blk
  simp only [List.getElem?_toArray, List.getElem?_cons_zero] at c0
  have hbm := blk_lt p.blk
  have P := Lib.hid p
  have HO := Lib.hid p.own
  have OW := Lib.hid ho
  have HB := Lib.hid hb
  have HR := Lib.hid hR
  clear p ho hb hR IT
  go_wp2_with (at_delete; refine Stop.out ?_)
  refine Stop.of (wpList_delete_own _ rfl _ _ 49 3 rfl 52 intK mapO mapR ob no D rfl HO.out _ (olit s) rfl KS.out ?_)
  intro w2 hown2 hturn2
  have hf : Fr (fun j => j = ob) w1 w2 := .of_grown hturn2.grown (by rintro j e; cases e; rfl)
  have ST := Lib.hid (P.out.gone (S := fun j => j = ob) (s := s) (fun j hj => .inl hj) hf hown2 (fun s' => hasS_drop) (fun s' hne => itsI_drop_other L hne))
  have hobw : ob < w.heap.size := HLT.out ob (by rw [HR.out]; exact .inr (.inl rfl))
  have O2 := Lib.hid (own_fr OW.out hf (fun g hg e => by have := (OW.out.lt g hg).1; omega))
  clear hown2 hturn2 hf c0
  go_wp2_with fail
  go_ret
  rw [HR.out]
  exact ⟨v, rfl, O2.out, ST.out.pre HB.out⟩
theorem add7_nil (s o : Int) (k : ByteArray) (w : World) : Calls Try.prog 7 #[.pointer none, .int .i64 s, .int .i64 o, .string k] w fun e w' => e = .returned (.tuple #[]) ∧ w = w' := by
  go_enter Try.func7, Try.ntmps7
  go_wp2_with fail
  refine bodyPost_ret (results_none rfl _ _ _) rfl ?_
  exact ⟨rfl, rfl⟩
theorem remove12_nil (s o : Int) (w : World) : Calls Try.prog 12 #[.pointer none, .int .i64 s, .int .i64 o] w fun e w' => e = .returned (.bool false) ∧ w = w' := by
  go_enter Try.func12, Try.ntmps12
  go_wp2_with fail
  go_ret
  exact ⟨rfl, rfl⟩
theorem items8_nil (s : Int) (w : World) : Calls Try.prog 8 #[.pointer none, .int .i64 s] w fun e w' => e = .returned (.slice none 0 0) ∧ w = w' := by
  go_enter Try.func8, Try.ntmps8
  go_wp2_with fail
  go_ret
  exact ⟨rfl, rfl⟩
theorem drop9_nil (s : Int) (w : World) : Calls Try.prog 9 #[.pointer none, .int .i64 s] w fun e w' => e = .returned (.slice none 0 0) ∧ w = w' := by
  go_enter Try.func9, Try.ntmps9
  go_wp2_with fail
  with_reducible refine (items8_nil _ _).mono ?_
  rintro e w1 ⟨rfl, rfl⟩
  go_wp2_with fail
  go_ret
  exact ⟨rfl, rfl⟩
theorem seqs17_nil (w : World) : Calls Try.prog 17 #[.pointer none] w fun e w' => e = .returned (.slice none 0 0) ∧ w = w' := by
  go_enter Try.func17, Try.ntmps17
  go_wp2_with fail
  go_ret
  exact ⟨rfl, rfl⟩
end Go.Proofs.Ytdjjmglocdhnhaa
