/-
  Laws and contracts for the statement TopExpired.
-/
import Derived.Maps.OwnOps
import Derived.Maps.RangeWalk
import Derived.Maps.StringElems
import Derived.WalkSpells
import Derived.BigRegion
import Derived.Deep.RegionLaw
import Derived.Test.YtbikkioipamlmaaGreatDoorX14
open Go.Lib (hid)
open Go.Proofs.Tryz (prog)
set_option linter.unusedVariables false
set_option linter.unusedSimpArgs false
set_option maxRecDepth 100000
set_option maxHeartbeats 20000000
namespace Go.Proofs.YtbikkioipamlmaaGreatDoor
open Go.Maps Go.RowKit
def optP : Option Nat -> Value
  | none => .pointer none
  | some b => .pointer (some ⟨b, 0, none⟩)
abbrev stC (tb cb qb dp : Nat) (ev : Int) (l : Lay) (lv : Value) (ob : Option Nat) (nx now : Int) : Array Value :=
  #[.pointer (some ⟨tb, 0, none⟩), .pointer (some ⟨cb, 0, none⟩), .pointer (some ⟨qb, 0, none⟩), .int .i64 ev, .int .i64 0, .pointer (some ⟨dp, 0, none⟩), .bool false,
    .int .i64 1, .int .i64 1, .int .i64 0, .int .i64 1, .int .i64 0, .int .i64 l.id, .int .i64 l.ver, .int .i64 l.rs, .int .i64 l.rg, .int .i64 0, .int .i64 0, .int .i64 0, .int .i64 0, .slice none 0 0,
    lv, optP ob, .int .i64 nx, .int .i64 now, .int .i64 0]
def StB (w : World) (sb tb cb qb dp : Nat) (ev : Int) (l : Lay) (lv : Value) (ob : Option Nat) (nx now : Int) : Prop := w.heap[sb]? = some (.cells (stC tb cb qb dp ev l lv ob nx now) 223 (0, 0))
theorem StB.below {w w' : World} {sb tb cb qb dp : Nat} {ev : Int} {l : Lay} {lv : Value} {ob : Option Nat} {nx now : Int} (h : StB w sb tb cb qb dp ev l lv ob nx now) (hb : Below w.heap.size w w') : StB w' sb tb cb qb dp ev l lv ob nx now := (hb.block sb (lB h)).trans h
theorem StB.fr {w w' : World} {S : Nat -> Prop} {sb tb cb qb dp : Nat} {ev : Int} {l : Lay} {lv : Value} {ob : Option Nat} {nx now : Int} (h : StB w sb tb cb qb dp ev l lv ob nx now) (hf : Fr S w w') (hs : ¬ S sb) : StB w' sb tb cb qb dp ev l lv ob nx now := (hf.block sb (lB h) hs).trans h
section
variable (sb tb cb qb dp ib mb cap n : Nat) (D : DataW Nat) (S : List (List Int)) (wn : Nat) (ev : Int) (l : Lay) (lv : Value) (ob : Option Nat) (nx now : Int) (w : World)
theorem stable8 (h : StB w sb tb cb qb dp ev l lv ob nx now) : Calls prog 145 #[.pointer (some ⟨sb, 0, none⟩)] w fun e w' => e = .returned (.bool true) /\ w = w' := by
  have c8 := qB (i := 8) h
  have hl := lB h
  go_enter Tryz.func145, Tryz.ntmps145
  go_wp2_with fail
  go_ret
  exact ⟨rfl, rfl⟩
theorem down8 (h : StB w sb tb cb qb dp ev l lv ob nx now) (hd : Dev w dp ib mb cap n D S wn) : Calls prog 107 #[.pointer (some ⟨sb, 0, none⟩)] w fun e w' => e = .returned (.bool false) /\ w = w' := by
  have c5 := qB (i := 5) h
  have c6 := qB (i := 6) h
  have hl := lB h
  have DD := hid (deadD dp ib mb cap n D S wn w hd)
  clear hd
  go_enter Tryz.func107, Tryz.ntmps107
  go_wp2_with fail
  with_reducible refine DD.out.mono ?_
  rintro e w1 ⟨rfl, rfl⟩
  go_wp2_with fail
  go_ret
  exact ⟨rfl, rfl⟩
theorem now8 (h : StB w sb tb cb qb dp ev l lv ob nx now) (hd : Dev w dp ib mb cap n D S wn) : Calls prog 73 #[.pointer (some ⟨sb, 0, none⟩)] w fun e w' => e = .returned (.int .i64 now) /\ w = w' := by
  have c := qB (i := 24) h
  have hl := lB h
  have DD := hid (down8 sb tb cb qb dp ib mb cap n D S wn ev l lv ob nx now w h hd)
  clear hd
  go_enter Tryz.func73, Tryz.ntmps73
  go_wp2_with fail
  with_reducible refine DD.out.mono ?_
  rintro e w1 ⟨rfl, rfl⟩
  go_wp2_with fail
  go_ret
  exact ⟨rfl, rfl⟩
theorem evicted8 (h : StB w sb tb cb qb dp ev l lv ob nx now) (hd : Dev w dp ib mb cap n D S wn) : Calls prog 55 #[.pointer (some ⟨sb, 0, none⟩)] w fun e w' => e = .returned (.int .i64 ev) /\ w = w' := by
  have c := qB (i := 3) h
  have hl := lB h
  have DD := hid (down8 sb tb cb qb dp ib mb cap n D S wn ev l lv ob nx now w h hd)
  clear hd
  go_enter Tryz.func55, Tryz.ntmps55
  go_wp2_with fail
  with_reducible refine DD.out.mono ?_
  rintro e w1 ⟨rfl, rfl⟩
  go_wp2_with fail
  go_ret
  exact ⟨rfl, rfl⟩
theorem stsectors8 (h : StB w sb tb cb qb dp ev l lv ob nx now) (hd : Dev w dp ib mb cap n D S wn) : Calls prog 47 #[.pointer (some ⟨sb, 0, none⟩)] w fun e w' => e = .returned (.int .i64 (S.length : Int)) /\ w = w' := by
  have c := qB (i := 5) h
  have hl := lB h
  have DD := hid (down8 sb tb cb qb dp ib mb cap n D S wn ev l lv ob nx now w h hd)
  have SC := hid (sectorsD dp ib mb cap n D S wn w hd)
  clear hd
  go_enter Tryz.func47, Tryz.ntmps47
  go_wp2_with fail
  with_reducible refine DD.out.mono ?_
  rintro e w1 ⟨rfl, rfl⟩
  go_wp2_with fail
  with_reducible refine SC.out.mono ?_
  rintro e w1 ⟨rfl, rfl⟩
  go_wp2_with fail
  go_ret
  exact ⟨rfl, rfl⟩
theorem did8 : Calls prog 115 #[.pointer (some ⟨sb, 0, none⟩), .int .i64 0] w fun e w' => e = .returned (.int .i64 0) /\ w = w' := by
  go_enter Tryz.func115, Tryz.ntmps115
  go_wp2_with fail
  go_ret
  exact ⟨rfl, rfl⟩
end
theorem lclone0 (w : World) : Calls prog 180 #[.slice none 0 0] w fun e w' => e = .returned (.slice none 0 0) /\ w = w' := by
  have qT : ∀ (w : World) (a : Option Addr) (n c n' c' : Nat), (binOp .eql 56 (.slice a n c) (.slice none n' c')).run prog w = .ok (.bool a.isNone) w := fun w a n c n' c' => Lib.run_eql_slice_nil w _ _ a n c n' c' Tryz.underlying56
  go_enter Tryz.func180, Tryz.ntmps180
  go_wp2_with fail
  go_ret
  exact ⟨rfl, rfl⟩
theorem sclone8 (l : Lay) (w : World) : Calls prog 108 #[.agg #[.int .i64 1, .int .i64 1, .int .i64 0, .int .i64 1, .int .i64 0, .int .i64 l.id, .int .i64 l.ver, .int .i64 l.rs, .int .i64 l.rg, .int .i64 0, .int .i64 0, .int .i64 0, .int .i64 0, .slice none 0 0]] w fun e w' => e = .returned (.agg #[.int .i64 1, .int .i64 1, .int .i64 0, .int .i64 1, .int .i64 0, .int .i64 l.id, .int .i64 l.ver, .int .i64 l.rs, .int .i64 l.rg, .int .i64 0, .int .i64 0, .int .i64 0, .int .i64 0, .slice none 0 0]) /\ Below w.heap.size w w' := by
  go_enter Tryz.func108, Tryz.ntmps108
  go_wp2_with fail
  with_reducible refine (lclone0 _).mono ?_
  rintro e w1 ⟨rfl, rfl⟩
  obtain ⟨w1, hw1⟩ : ∃ w1, (w.alloc (.cells #[.int .i64 1, .int .i64 1, .int .i64 0, .int .i64 1, .int .i64 0, .int .i64 l.id, .int .i64 l.ver, .int .i64 l.rs, .int .i64 l.rg, .int .i64 0, .int .i64 0, .int .i64 0, .int .i64 0, .slice none 0 0] 58)).alloc (.cells #[.int .i64 0, .int .i64 0, .int .i64 0, .int .i64 0, .int .i64 0, .int .i64 0, .int .i64 0, .int .i64 0, .int .i64 0, .int .i64 0, .int .i64 0, .int .i64 0, .int .i64 0, .slice none 0 0] 58) = w1 := ⟨_, rfl⟩
  have B1 := hid (show Below w.heap.size w w1 by rw [<- hw1]; exact ((Below.refl _ _).alloc (Nat.le_refl _) _).alloc (by simp) _)
  have HA := hid (show w1.heap[w.heap.size]? = some (.cells #[.int .i64 1, .int .i64 1, .int .i64 0, .int .i64 1, .int .i64 0, .int .i64 l.id, .int .i64 l.ver, .int .i64 l.rs, .int .i64 l.rg, .int .i64 0, .int .i64 0, .int .i64 0, .int .i64 0, .slice none 0 0] 58 (0, 0)) by rw [<- hw1]; exact old_at (nB w _) _)
  have HB := hid (show w1.heap[w.heap.size + 1]? = some (.cells #[.int .i64 0, .int .i64 0, .int .i64 0, .int .i64 0, .int .i64 0, .int .i64 0, .int .i64 0, .int .i64 0, .int .i64 0, .int .i64 0, .int .i64 0, .int .i64 0, .int .i64 0, .slice none 0 0] 58 (0, 0)) by rw [<- hw1, has1 w (.cells #[.int .i64 1, .int .i64 1, .int .i64 0, .int .i64 1, .int .i64 0, .int .i64 l.id, .int .i64 l.ver, .int .i64 l.rs, .int .i64 l.rg, .int .i64 0, .int .i64 0, .int .i64 0, .int .i64 0, .slice none 0 0] 58)]; exact nB _ _)
  rw [hw1]
  clear hw1
  have c13 := qB (i := 13) HA.out
  have f13 := zB (i := 13) HA.out
  go_upto_region 2 with fail
  obtain ⟨w2, hw2⟩ : ∃ w2, w1.setCell ⟨w.heap.size, 13, none⟩ (.slice none 0 0) = w2 := ⟨_, rfl⟩
  have B2 := hid (show Below w.heap.size w w2 by rw [<- hw2]; exact sB B1.out (Nat.le_refl _))
  have HA2 := hid (show w2.heap[w.heap.size]? = some (.cells #[.int .i64 1, .int .i64 1, .int .i64 0, .int .i64 1, .int .i64 0, .int .i64 l.id, .int .i64 l.ver, .int .i64 l.rs, .int .i64 l.rg, .int .i64 0, .int .i64 0, .int .i64 0, .int .i64 0, .slice none 0 0] 58 (0, 0)) by rw [<- hw2]; exact uB HA.out _)
  have F2 := fS w1 w.heap.size 13 (.slice none 0 0)
  have HB2 := hid (show w2.heap[w.heap.size + 1]? = some (.cells #[.int .i64 0, .int .i64 0, .int .i64 0, .int .i64 0, .int .i64 0, .int .i64 0, .int .i64 0, .int .i64 0, .int .i64 0, .int .i64 0, .int .i64 0, .int .i64 0, .int .i64 0, .slice none 0 0] 58 (0, 0)) by rw [<- hw2]; exact (F2.block (w.heap.size + 1) (lB HB.out) (by omega)).trans HB.out)
  rw [hw2]
  clear hw2 F2 c13 f13
  go_step
  refine wpList_load_row rfl 58 (.tmp 1) rfl w.heap.size rfl 58 _ (0, 0) _ HA2.out Tryz.underlying58 rfl (by kernel_rfl) ?_
  refine wpList_store_row rfl 58 (.tmp 2) (.tmp 7) rfl (w.heap.size + 1) _ rfl rfl 58 _ HB2.out (by kernel_rfl) rfl (by simp [Value.oneCell']) ?_
  go_wp2_with (with_reducible refine bodyPost_ret (results_cell_row rfl _ _ (w.heap.size + 1) _ _ _ _ rfl (setRow_heap _ _ _ _ _ _ HB2.out) Tryz.underlying58 rfl (by kernel_rfl)) rfl ?_; exact ⟨rfl, bel_setRow B2.out (by omega)⟩)
theorem stsuper8 (sb tb cb qb dp ib mb cap n : Nat) (D : DataW Nat) (S : List (List Int)) (wn : Nat) (ev : Int) (l : Lay) (lv : Value) (ob : Option Nat) (nx now : Int) (w : World) (h : StB w sb tb cb qb dp ev l lv ob nx now) (hd : Dev w dp ib mb cap n D S wn) :
    Calls prog 51 #[.pointer (some ⟨sb, 0, none⟩)] w fun e w' => e = .returned (.agg #[.int .i64 1, .int .i64 1, .int .i64 0, .int .i64 1, .int .i64 0, .int .i64 l.id, .int .i64 l.ver, .int .i64 l.rs, .int .i64 l.rg, .int .i64 0, .int .i64 0, .int .i64 0, .int .i64 0, .slice none 0 0]) /\ Below w.heap.size w w' := by
  have hl := lB h
  have hb1 : Below w.heap.size w (w.alloc (.cells #[.int .i64 0, .int .i64 0, .int .i64 0, .int .i64 0, .int .i64 0, .int .i64 0, .int .i64 0, .int .i64 0, .int .i64 0, .int .i64 0, .int .i64 0, .int .i64 0, .int .i64 0, .slice none 0 0] 58)) := (Below.refl _ _).alloc (Nat.le_refl _) _
  have DD := hid (down8 sb tb cb qb dp ib mb cap n D S wn ev l lv ob nx now _ (h.below hb1) (hd.below hb1))
  have H1 := hid (h.below hb1)
  have BB := hid hb1
  have CL := hid (fun W => sclone8 l W)
  clear hd hb1
  go_enter Tryz.func51, Tryz.ntmps51
  go_wp2_with fail
  with_reducible refine DD.out.mono ?_
  rintro e w1 ⟨rfl, rfl⟩
  have c7 := qB (i := 7) H1.out
  have c8 := qB (i := 8) H1.out
  have c9 := qB (i := 9) H1.out
  have c10 := qB (i := 10) H1.out
  have c11 := qB (i := 11) H1.out
  have c12 := qB (i := 12) H1.out
  have c13 := qB (i := 13) H1.out
  have c14 := qB (i := 14) H1.out
  have c15 := qB (i := 15) H1.out
  have c16 := qB (i := 16) H1.out
  have c17 := qB (i := 17) H1.out
  have c18 := qB (i := 18) H1.out
  have c19 := qB (i := 19) H1.out
  have c20 := qB (i := 20) H1.out
  go_wp2_with fail
  with_reducible refine (CL.out _).mono ?_
  rintro e w2 ⟨rfl, hb2⟩
  have BW := hid (tB BB.out hb2)
  have HZ := hid ((hb2.block w.heap.size (by simp)).trans (nB w _))
  clear hb2 c7 c8 c9 c10 c11 c12 c13 c14 c15 c16 c17 c18 c19 c20
  have z0 := qB (i := 0) HZ.out
  have y0 := zB (i := 0) HZ.out
  have z1 := qB (i := 1) HZ.out
  have y1 := zB (i := 1) HZ.out
  have z2 := qB (i := 2) HZ.out
  have y2 := zB (i := 2) HZ.out
  have z3 := qB (i := 3) HZ.out
  have y3 := zB (i := 3) HZ.out
  have z4 := qB (i := 4) HZ.out
  have y4 := zB (i := 4) HZ.out
  have z5 := qB (i := 5) HZ.out
  have y5 := zB (i := 5) HZ.out
  have z6 := qB (i := 6) HZ.out
  have y6 := zB (i := 6) HZ.out
  have z7 := qB (i := 7) HZ.out
  have y7 := zB (i := 7) HZ.out
  have z8 := qB (i := 8) HZ.out
  have y8 := zB (i := 8) HZ.out
  have z9 := qB (i := 9) HZ.out
  have y9 := zB (i := 9) HZ.out
  have z10 := qB (i := 10) HZ.out
  have y10 := zB (i := 10) HZ.out
  have z11 := qB (i := 11) HZ.out
  have y11 := zB (i := 11) HZ.out
  have z12 := qB (i := 12) HZ.out
  have y12 := zB (i := 12) HZ.out
  have z13 := qB (i := 13) HZ.out
  have y13 := zB (i := 13) HZ.out
  go_wp2_with (with_reducible refine bodyPost_ret (results_cell_row rfl _ _ w.heap.size _ _ _ _ rfl (set14 HZ.out _ _ _ _ _ _ _ _ _ _ _ _ _ _).1 Tryz.underlying58 rfl (by kernel_rfl)) rfl ?_; exact ⟨rfl, sB (sB (sB (sB (sB (sB (sB (sB (sB (sB (sB (sB (sB (sB BW.out (Nat.le_refl _)) (Nat.le_refl _)) (Nat.le_refl _)) (Nat.le_refl _)) (Nat.le_refl _)) (Nat.le_refl _)) (Nat.le_refl _)) (Nat.le_refl _)) (Nat.le_refl _)) (Nat.le_refl _)) (Nat.le_refl _)) (Nat.le_refl _)) (Nat.le_refl _)) (Nat.le_refl _)⟩)
end Go.Proofs.YtbikkioipamlmaaGreatDoor
namespace Go.Proofs.YtbikkioipamlmaaGreatDoor.C17
structure It where
  seq : Int
  off : Int
  key : ByteArray
def ltI (x y : It) : Bool := decide (x.seq < y.seq) || (decide (x.seq = y.seq) && decide (x.off < y.off))
theorem ltI_iff (x y : It) : ltI x y = true ↔ x.seq < y.seq \/ (x.seq = y.seq /\ x.off < y.off) := by unfold ltI; simp
def AscI (L : List It) : Prop := L.Pairwise (fun a b => ltI a b = true)
theorem AscI.nil : AscI [] := List.Pairwise.nil
theorem AscI.tail {x : It} {L : List It} (h : AscI (x :: L)) : AscI L := (List.pairwise_cons.1 h).2
theorem AscI.head {x : It} {L : List It} (h : AscI (x :: L)) : ∀ y ∈ L, ltI x y = true := (List.pairwise_cons.1 h).1
def atB (s o : Int) (x : It) : Bool := decide (x.seq = s) && decide (x.off = o)
theorem atB_iff (s o : Int) (x : It) : atB s o x = true ↔ x.seq = s /\ x.off = o := by unfold atB; simp
def rmI (L : List It) (s o : Int) : List It := L.filter (fun x => !atB s o x)
theorem mem_rmI {L : List It} {s o : Int} {x : It} : x ∈ rmI L s o ↔ x ∈ L /\ ¬ (x.seq = s /\ x.off = o) := by
  unfold rmI
  rw [List.mem_filter, Bool.not_eq_true', <- Bool.not_eq_true, atB_iff]
theorem rmI_none {L : List It} {s o : Int} (h : ∀ x ∈ L, ¬ (x.seq = s /\ x.off = o)) : rmI L s o = L := by
  unfold rmI
  refine List.filter_eq_self.2 (fun x hx => ?_)
  rw [Bool.not_eq_true', <- Bool.not_eq_true, atB_iff]
  exact h x hx
def insI : List It -> It -> List It
  | [], x => [x]
  | y :: l, x => if ltI y x = true then y :: insI l x else x :: y :: l
theorem insI_perm (l : List It) (x : It) : (insI l x).Perm (x :: l) := by
  induction l with
  | nil => exact List.Perm.refl _
  | cons z l ih =>
    unfold insI
    split
    · exact (ih.cons z).trans (List.Perm.swap _ _ _)
    · exact List.Perm.refl _
theorem mem_insI {l : List It} {x y : It} : y ∈ insI l x ↔ y = x \/ y ∈ l := by
  rw [(insI_perm l x).mem_iff, List.mem_cons]
def adI (L : List It) (s o : Int) (k : ByteArray) : List It := insI (rmI L s o) ⟨s, o, k⟩
theorem mem_adI {L : List It} {s o : Int} {k : ByteArray} {x : It} : x ∈ adI L s o k ↔ x = ⟨s, o, k⟩ \/ (x ∈ L /\ ¬ (x.seq = s /\ x.off = o)) := by
  unfold adI; rw [mem_insI, mem_rmI]
def itsI (L : List It) (s : Int) : List It := L.filter (fun x => decide (x.seq = s))
theorem mem_itsI {L : List It} {s : Int} {x : It} : x ∈ itsI L s ↔ x ∈ L /\ x.seq = s := by unfold itsI; rw [List.mem_filter, decide_eq_true_eq]
theorem itsI_nil_iff {L : List It} {s : Int} : itsI L s = [] ↔ ¬ ∃ x ∈ L, x.seq = s := by
  rw [List.eq_nil_iff_forall_not_mem]
  constructor
  · rintro h ⟨x, hx, hs⟩; exact h x (mem_itsI.2 ⟨hx, hs⟩)
  · intro h x hx; exact h ⟨x, mem_itsI.1 hx⟩
theorem itsI_rm_other (L : List It) {s s' : Int} (o : Int) (h : s' ≠ s) : itsI (rmI L s o) s' = itsI L s' := by
  unfold itsI rmI
  rw [List.filter_filter]
  refine List.filter_congr (fun x hx => ?_)
  by_cases e : x.seq = s'
  · have : atB s o x = false := by unfold atB; rw [e]; simp [h]
    simp [e, this]
  · simp [e]
theorem itsI_ins_other (l : List It) (x : It) {s' : Int} (h : s' ≠ x.seq) : itsI (insI l x) s' = itsI l s' := by
  induction l with
  | nil => unfold insI itsI; simp [Ne.symm h]
  | cons z l ih =>
    unfold insI
    split
    · unfold itsI at ih ⊢
      rw [List.filter_cons, List.filter_cons, ih]
    · unfold itsI
      rw [List.filter_cons, if_neg (by simp [Ne.symm h])]
theorem itsI_ad_other (L : List It) {s s' : Int} (o : Int) (k : ByteArray) (h : s' ≠ s) : itsI (adI L s o k) s' = itsI L s' := by
  unfold adI; rw [itsI_ins_other _ _ h, itsI_rm_other L o h]
theorem rm_length {L : List It} (h : AscI L) (s o : Int) : (itsI (rmI L s o) s).length + (if ∃ x ∈ itsI L s, x.off = o then 1 else 0) = (itsI L s).length := by
  induction L with
  | nil => simp [itsI, rmI]
  | cons y L ih =>
    have ih := ih h.tail
    have hh := h.head
    by_cases hs : y.seq = s
    · have e1 : itsI (y :: L) s = y :: itsI L s := by unfold itsI; rw [List.filter_cons, if_pos (by simp [hs])]
      by_cases ho : y.off = o
      · have e2 : rmI (y :: L) s o = rmI L s o := by unfold rmI; rw [List.filter_cons, if_neg (by simp [atB, hs, ho])]
        have hno : ¬ ∃ x ∈ itsI L s, x.off = o := by
          rintro ⟨x, hx, hxo⟩
          obtain ⟨hx, hs'⟩ := mem_itsI.1 hx
          have := hh x hx
          rw [ltI_iff] at this
          omega
        rw [if_neg hno] at ih
        rw [e1, e2, if_pos ⟨y, by simp, ho⟩, List.length_cons]
        omega
      · have e2 : itsI (rmI (y :: L) s o) s = y :: itsI (rmI L s o) s := by
          unfold rmI itsI
          rw [List.filter_cons, if_pos (by simp [atB, ho]), List.filter_cons, if_pos (by simp [hs])]
        have e : (∃ x ∈ y :: itsI L s, x.off = o) ↔ ∃ x ∈ itsI L s, x.off = o := by
          constructor
          · rintro ⟨x, hx, hxo⟩
            rcases List.mem_cons.1 hx with rfl | hx
            · exact absurd hxo ho
            · exact ⟨x, hx, hxo⟩
          · rintro ⟨x, hx, hxo⟩; exact ⟨x, List.mem_cons_of_mem _ hx, hxo⟩
        rw [e1, e2, List.length_cons, List.length_cons]
        simp only [e]
        omega
    · have e1 : itsI (y :: L) s = itsI L s := by unfold itsI; rw [List.filter_cons, if_neg (by simp [hs])]
      have e2 : itsI (rmI (y :: L) s o) s = itsI (rmI L s o) s := by
        unfold rmI itsI
        rw [List.filter_cons, if_pos (by simp [atB, hs]), List.filter_cons, if_neg (by simp [hs])]
      rw [e1, e2]
      exact ih
theorem ad_length (L : List It) (s o : Int) (k : ByteArray) : (itsI (adI L s o k) s).length = (itsI (rmI L s o) s).length + 1 := by
  unfold adI itsI
  rw [((insI_perm (rmI L s o) ⟨s, o, k⟩).filter _).length_eq, List.filter_cons, if_pos (by simp), List.length_cons]
end Go.Proofs.YtbikkioipamlmaaGreatDoor.C17
namespace Go.Proofs.YtbikkioipamlmaaGreatDoor.C17
open Go.Maps Go.RowKit
theorem intK : Keyed prog 3 := int_keyed Tryz.underlying3
def olit (o : Int) : Lit := .int .i64 o
theorem keyI {o : Int} (h : (Lit.int .i64 o).wf = true) : keyOf prog 3 (.int .i64 o) = some (olit o) := keyOf_int_mk Tryz.underlying3 h
theorem olit_ne {a b : Int} (h : a ≠ b) : olit a ≠ olit b := fun e => h (by unfold olit at e; injection e)
theorem olit_key (o : Int) : WideAt.IsKeyLit (olit o) := trivial
theorem mapO : prog.underlying 412 = some (.map 3 411) := Tryz.underlying412
theorem mapI : prog.underlying 411 = some (.map 3 9) := Tryz.underlying411
theorem zeroO (w : World) : (zeroValue 411).run prog w = .ok (.map none) w := Tryz.zeroValue411 w
theorem zeroI (w : World) : (zeroValue 9).run prog w = .ok (.string ByteArray.empty) w := Tryz.zeroValue9 w
def mapR : Value -> Option (DataW Nat × List MemPlace)
  | .map none => some (.nil, [])
  | .map (some b) => some (.held b, [])
  | _ => none
theorem mapR_inv {v : Value} {z : DataW Nat × List MemPlace} (h : mapR v = some z) : (v = .map none /\ z = (.nil, [])) \/ ∃ b, v = .map (some b) /\ z = (.held b, []) := by
  unfold mapR at h
  split at h
  · injection h with h; exact .inl ⟨rfl, h.symm⟩
  · injection h with h; exact .inr ⟨_, rfl, h.symm⟩
  · cases h
def sdat (k : ByteArray) : DataW Nat := .lit (.string k.data.toList)
theorem strE_mk {k : ByteArray} (h : k.size <= maxLen) : plainElem prog 9 (.string k) = some (sdat k, []) := plainElem_string Tryz.underlying9 h
abbrev OMo (w : World) (b n : Nat) (D : DataW Nat) : Prop := w.ownsMap prog 3 mapR b n D
abbrev OMi (w : World) (b n : Nat) (D : DataW Nat) : Prop := w.ownsMap prog 3 (plainElem prog 9) b n D
def HasS (L : List It) (s : Int) : Prop := ∃ x ∈ L, x.seq = s
instance (L : List It) (s : Int) : Decidable (HasS L s) := by unfold HasS; infer_instance
theorem hasS_its {L : List It} {s : Int} : HasS L s ↔ itsI L s ≠ [] := by
  rw [Ne, itsI_nil_iff]; unfold HasS; exact Decidable.not_not.symm
theorem hasS_ad {L : List It} {s o : Int} {k : ByteArray} {s' : Int} : HasS (adI L s o k) s' ↔ s' = s \/ HasS L s' := by
  constructor
  · rintro ⟨x, hx, e⟩
    rcases mem_adI.1 hx with rfl | ⟨hx, _⟩
    · exact .inl e.symm
    · exact .inr ⟨x, hx, e⟩
  · intro h
    by_cases e : s' = s
    · exact ⟨⟨s, o, k⟩, mem_adI.2 (.inl rfl), e.symm⟩
    · rcases h with h | ⟨x, hx, hs⟩
      · exact absurd h e
      · exact ⟨x, mem_adI.2 (.inr ⟨hx, fun h => e (by omega)⟩), hs⟩
theorem hasS_rm_other {L : List It} {s o s' : Int} (h : s' ≠ s) : HasS (rmI L s o) s' ↔ HasS L s' := by rw [hasS_its, hasS_its, itsI_rm_other L o h]
structure InA (D : DataW Nat) (l : List It) : Prop where
  has : ∀ o, Maps.has D (olit o) = decide (∃ x ∈ l, x.off = o)
  at' : ∀ x ∈ l, ∀ z, D.atKey (olit x.off) z = sdat x.key
  size : Maps.size D = l.length
theorem InA.nil : InA (.map []) [] := ⟨fun _ => rfl, fun x hx => by simp at hx, rfl⟩
theorem InA.put {D : DataW Nat} {L : List It} {s : Int} (h : InA D (itsI L s)) (hT : Tidy D) (hA : AscI L) (o : Int) (k : ByteArray) : InA (D.put (olit o) (sdat k)) (itsI (adI L s o k) s) := by
  have hmem : ∀ x, x ∈ itsI (adI L s o k) s ↔ x = ⟨s, o, k⟩ \/ (x ∈ itsI L s /\ x.off ≠ o) := fun x => by
    rw [mem_itsI, mem_adI, mem_itsI]
    constructor
    · rintro ⟨rfl | ⟨h1, h2⟩, h3⟩
      · exact .inl rfl
      · exact .inr ⟨⟨h1, h3⟩, fun e => h2 ⟨h3, e⟩⟩
    · rintro (rfl | ⟨⟨h1, h2⟩, h3⟩)
      · exact ⟨.inl rfl, rfl⟩
      · exact ⟨.inr ⟨h1, fun e => h3 e.2⟩, h2⟩
  refine ⟨fun o' => ?_, fun x hx z => ?_, ?_⟩
  · by_cases e : o' = o
    · subst e
      rw [has_put_same hT.isMap (olit_key _)]
      symm; rw [decide_eq_true_eq]
      exact ⟨_, (hmem _).2 (.inl rfl), rfl⟩
    · rw [has_put_other (olit_ne e), h.has]
      congr 1
      apply propext
      constructor
      · rintro ⟨x, hx, hxo⟩; exact ⟨x, (hmem x).2 (.inr ⟨hx, fun e' => e (hxo.symm.trans e')⟩), hxo⟩
      · rintro ⟨x, hx, hxo⟩
        rcases (hmem x).1 hx with rfl | ⟨hx, _⟩
        · exact absurd hxo.symm e
        · exact ⟨x, hx, hxo⟩
  · rcases (hmem x).1 hx with rfl | ⟨hx, hne⟩
    · exact atKey_put_same hT.isMap (olit_key _) _ _
    · rw [atKey_put_other (olit_ne hne)]; exact h.at' x hx z
  · rw [size_put hT, h.has, h.size, ad_length]
    have := rm_length hA s o
    by_cases e : ∃ x ∈ itsI L s, x.off = o
    · rw [if_pos e] at this; simp only [e, decide_true, if_true]; omega
    · rw [if_neg e] at this; simp only [e, decide_false]; simp; omega
theorem InA.del {D : DataW Nat} {L : List It} {s : Int} (h : InA D (itsI L s)) (hT : Tidy D) (hA : AscI L) (o : Int) : InA (D.del (olit o)) (itsI (rmI L s o) s) := by
  have hmem : ∀ x, x ∈ itsI (rmI L s o) s ↔ x ∈ itsI L s /\ x.off ≠ o := fun x => by
    rw [mem_itsI, mem_rmI, mem_itsI]
    constructor
    · rintro ⟨⟨h1, h2⟩, h3⟩; exact ⟨⟨h1, h3⟩, fun e => h2 ⟨h3, e⟩⟩
    · rintro ⟨⟨h1, h2⟩, h3⟩; exact ⟨⟨h1, fun e => h3 e.2⟩, h2⟩
  refine ⟨fun o' => ?_, fun x hx z => ?_, ?_⟩
  · by_cases e : o' = o
    · subst e
      rw [has_del_same]
      symm; rw [decide_eq_false_iff_not]
      rintro ⟨x, hx, hxo⟩; exact ((hmem x).1 hx).2 hxo
    · rw [has_del_other (olit_ne e), h.has]
      congr 1
      apply propext
      constructor
      · rintro ⟨x, hx, hxo⟩; exact ⟨x, (hmem x).2 ⟨hx, fun e' => e (hxo.symm.trans e')⟩, hxo⟩
      · rintro ⟨x, hx, hxo⟩; exact ⟨x, ((hmem x).1 hx).1, hxo⟩
  · obtain ⟨hx, hne⟩ := (hmem x).1 hx
    rw [atKey_del_other (olit_ne hne)]; exact h.at' x hx z
  · have h1 := size_del (k := olit o) hT
    have h2 := rm_length hA s o
    rw [h.has, h.size] at h1
    simp only [decide_eq_true_eq] at h1
    omega
def InM (w : World) (b N : Nat) (l : List It) : Prop := ∃ n D, OMi w b n D /\ n <= N /\ InA D l
structure ChP (w : World) (cb ob no N : Nat) (D : DataW Nat) (bl : Int -> Nat) (L : List It) : Prop where
  blk : w.heap[cb]? = some (.cells #[.map (some ob)] 414 (0, 0))
  own : OMo w ob no D
  le : no <= N
  has : ∀ s, Maps.has D (olit s) = decide (HasS L s)
  at' : ∀ s, HasS L s -> ∀ z, D.atKey (olit s) z = .held (bl s)
  inn : ∀ s, HasS L s -> InM w (bl s) N (itsI L s)
  inj : ∀ s s', HasS L s -> HasS L s' -> bl s = bl s' -> s = s'
  ne : ∀ s, HasS L s -> bl s ≠ ob
def chfoot (cb ob : Nat) (bl : Int -> Nat) (L : List It) (j : Nat) : Prop := j = cb \/ j = ob \/ ∃ s, HasS L s /\ j = bl s
def Ch (w : World) (cb N : Nat) (L : List It) (R : Nat -> Prop) : Prop := ∃ ob no D bl, ChP w cb ob no N D bl L /\ R = chfoot cb ob bl L
theorem om_blk {w : World} {P : Program} {k : TypeId} {R : Value -> Option (DataW Nat × List MemPlace)} {b n : Nat} {D : DataW Nat} (h : w.ownsMap P k R b n D) : ∃ es clock, w.heap[b]? = some (.map es clock) := by
  obtain ⟨es, clock, hb, _⟩ := h
  exact ⟨es, clock, hb⟩
theorem om_fr {w w' : World} {P : Program} {k : TypeId} {R : Value -> Option (DataW Nat × List MemPlace)} {b n : Nat} {D : DataW Nat} {S : Nat -> Prop} (h : w.ownsMap P k R b n D) (hf : Fr S w w') (hn : ¬ S b) : w'.ownsMap P k R b n D := by
  have hlt := h.lt
  obtain ⟨es, clock, hb, F, hs, hD⟩ := h
  exact ⟨es, clock, (hf.block b hlt hn).trans hb, F, hs, hD⟩
theorem ChP.lt {w : World} {cb ob no N : Nat} {D : DataW Nat} {bl : Int -> Nat} {L : List It} (h : ChP w cb ob no N D bl L) : ∀ j, chfoot cb ob bl L j -> j < w.heap.size := by
  rintro j (rfl | rfl | ⟨s, hs, rfl⟩)
  · exact lB h.blk
  · exact h.own.lt
  · obtain ⟨n, D, ho, _⟩ := h.inn s hs
    exact ho.lt
theorem Ch.lt {w : World} {cb N : Nat} {L : List It} {R : Nat -> Prop} (h : Ch w cb N L R) : ∀ j, R j -> j < w.heap.size := by
  obtain ⟨ob, no, D, bl, p, rfl⟩ := h
  exact p.lt
theorem ChP.frame {w w' : World} {cb ob no N : Nat} {D : DataW Nat} {bl : Int -> Nat} {L : List It} {S : Nat -> Prop} (h : ChP w cb ob no N D bl L) (hf : Fr S w w') (hd : ∀ j, chfoot cb ob bl L j -> ¬ S j) : ChP w' cb ob no N D bl L :=
  ⟨(hf.block cb (lB h.blk) (hd cb (.inl rfl))).trans h.blk, om_fr h.own hf (hd ob (.inr (.inl rfl))), h.le, h.has, h.at', fun s hs => by
    obtain ⟨n, D, ho, hn, ha⟩ := h.inn s hs
    exact ⟨n, D, om_fr ho hf (hd _ (.inr (.inr ⟨s, hs, rfl⟩))), hn, ha⟩, h.inj, h.ne⟩
theorem Ch.frame {w w' : World} {cb N : Nat} {L : List It} {R S : Nat -> Prop} (h : Ch w cb N L R) (hf : Fr S w w') (hd : ∀ j, R j -> ¬ S j) : Ch w' cb N L R := by
  obtain ⟨ob, no, D, bl, p, rfl⟩ := h
  exact ⟨ob, no, D, bl, p.frame hf hd, rfl⟩
theorem Ch.below {w w' : World} {cb N : Nat} {L : List It} {R : Nat -> Prop} (h : Ch w cb N L R) (hb : Below w.heap.size w w') : Ch w' cb N L R := h.frame (S := fun _ => False) (.of_below hb) (fun _ _ f => f)
theorem Ch.mono {w : World} {cb N N' : Nat} {L : List It} {R : Nat -> Prop} (h : Ch w cb N L R) (hN : N <= N') : Ch w cb N' L R := by
  obtain ⟨ob, no, D, bl, p, rfl⟩ := h
  refine ⟨ob, no, D, bl, ⟨p.blk, p.own, Nat.le_trans p.le hN, p.has, p.at', fun s hs => ?_, p.inj, p.ne⟩, rfl⟩
  obtain ⟨n, D, ho, hn, ha⟩ := p.inn s hs
  exact ⟨n, D, ho, Nat.le_trans hn hN, ha⟩
theorem ChP.cb_ne {w : World} {cb ob no N : Nat} {D : DataW Nat} {bl : Int -> Nat} {L : List It} (h : ChP w cb ob no N D bl L) : cb ≠ ob /\ ∀ s, HasS L s -> cb ≠ bl s := by
  refine ⟨fun e => ?_, fun s hs e => ?_⟩
  · obtain ⟨es, clock, hb⟩ := om_blk h.own
    have h1 := h.blk
    rw [e, hb] at h1; cases h1
  · obtain ⟨n, D', ho, _⟩ := h.inn s hs
    obtain ⟨es, clock, hb⟩ := om_blk ho
    have h1 := h.blk
    rw [e, hb] at h1; cases h1
def ChStep (w w' : World) (cb N : Nat) (L' : List It) (R : Nat -> Prop) : Prop := ∃ R', Ch w' cb N L' R' /\ Fr R w w' /\ ∀ j, R' j -> R j \/ w.heap.size <= j
theorem ChP.add_has {w w' : World} {cb ob no N n : Nat} {D Di : DataW Nat} {bl : Int -> Nat} {L : List It} {s o : Int} {k : ByteArray} (h : ChP w cb ob no N D bl L) (hA : AscI L) (hs : HasS L s) (hi : OMi w (bl s) n Di) (hn : n <= N) (ha : InA Di (itsI L s))
    (ho : OMi w' (bl s) (n + 1) (Di.put (olit o) (sdat k))) (g : w.grownBy w' (some (bl s))) : ChStep w w' cb (N + 1) (adI L s o k) (chfoot cb ob bl L) := by
  obtain ⟨h1, h2⟩ := h.cb_ne
  have hf : Fr (fun j => j = bl s) w w' := .of_grown g (by rintro j e; cases e; rfl)
  have hh : ∀ s', HasS (adI L s o k) s' ↔ HasS L s' := fun s' => by
    rw [hasS_ad]
    exact ⟨fun h => h.elim (fun e => e ▸ hs) id, .inr⟩
  refine ⟨chfoot cb ob bl (adI L s o k), ⟨ob, no, D, bl, ⟨(hf.block cb (lB h.blk) (h2 s hs)).trans h.blk, om_fr h.own hf (fun e => h.ne s hs e.symm), Nat.le_trans h.le (Nat.le_succ _), fun s' => ?_, fun s' hs' => h.at' s' ((hh s').1 hs'), fun s' hs' => ?_, fun a b ha hb => h.inj a b ((hh a).1 ha) ((hh b).1 hb), fun s' hs' => h.ne s' ((hh s').1 hs')⟩, rfl⟩, hf.mono (fun j _ e => .inr (.inr ⟨s, hs, e⟩)), ?_⟩
  · rw [h.has]; congr 1; exact propext (hh s').symm
  · by_cases e : s' = s
    · subst e
      exact ⟨n + 1, _, ho, by omega, ha.put (hi.tidy intK) hA o k⟩
    · obtain ⟨n', D', ho', hn', ha'⟩ := h.inn s' ((hh s').1 hs')
      refine ⟨n', D', om_fr ho' hf (fun e' => e (h.inj s' s ((hh s').1 hs') hs e')), by omega, ?_⟩
      rw [itsI_ad_other L o k e]; exact ha'
  · rintro j (rfl | rfl | ⟨s', hs', rfl⟩)
    · exact .inl (.inl rfl)
    · exact .inl (.inr (.inl rfl))
    · exact .inl (.inr (.inr ⟨s', (hh s').1 hs', rfl⟩))
theorem ChP.add_new {w w1 w' : World} {cb ob no N : Nat} {D : DataW Nat} {bl : Int -> Nat} {L : List It} {s o : Int} {k : ByteArray} (h : ChP w cb ob no N D bl L) (hA : AscI L) (hs : ¬ HasS L s)
    (h1 : OMo w1 ob (no + 1) (D.put (olit s) (.held w.heap.size))) (g1 : (w.alloc (.map #[] 0)).grownBy w1 (some ob)) (h2 : OMi w' w.heap.size 1 ((DataW.map []).put (olit o) (sdat k))) (g2 : w1.grownBy w' (some w.heap.size)) : ChStep w w' cb (N + 1) (adI L s o k) (chfoot cb ob bl L) := by
  obtain ⟨n1, n2⟩ := h.cb_ne
  have hob := h.own.lt
  have hf : Fr (fun j => j = ob) w w' := by
    have a : Fr (fun j => j = ob) w (w.alloc (.map #[] 0)) := .of_below ((Below.refl _ _).alloc (Nat.le_refl _) _)
    have b : Fr (fun j => j = ob) w w1 := a.trans (T := fun j => j = ob) (.of_grown g1 (by rintro j e; cases e; rfl)) (fun j hj => .inl hj)
    exact b.trans (T := fun j => j = w.heap.size) (.of_grown g2 (by rintro j e; cases e; rfl)) (fun j hj => .inr (by omega))
  have hf1 : Fr (fun j => j = w.heap.size) w1 w' := .of_grown g2 (by rintro j e; cases e; rfl)
  have hits : itsI L s = [] := itsI_nil_iff.2 hs
  have hh : ∀ s', HasS (adI L s o k) s' ↔ s' = s \/ HasS L s' := fun s' => hasS_ad
  have hno : ∀ s', HasS L s' -> s' ≠ s := fun s' hs' e => hs (e ▸ hs')
  have hbl : ∀ s', HasS L s' -> bl s' < w.heap.size := fun s' hs' => h.lt _ (.inr (.inr ⟨s', hs', rfl⟩))
  have hT := h.own.tidy intK
  refine ⟨chfoot cb ob (fun s' => if s' = s then w.heap.size else bl s') (adI L s o k), ⟨ob, no + 1, _, fun s' => if s' = s then w.heap.size else bl s', ⟨(hf.block cb (lB h.blk) n1).trans h.blk, om_fr h1 hf1 (by omega), by have := h.le; omega, fun s' => ?_, fun s' hs' z => ?_, fun s' hs' => ?_, fun a b ha hb e => ?_, fun s' hs' => ?_⟩, rfl⟩, hf.mono (fun j _ e => .inr (.inl e)), ?_⟩
  · by_cases e : s' = s
    · subst e
      rw [has_put_same hT.isMap (olit_key _)]
      symm; rw [decide_eq_true_eq, hh]; exact .inl rfl
    · rw [has_put_other (olit_ne e), h.has]
      congr 1
      apply propext
      rw [hh]
      exact ⟨.inr, fun h => h.elim (fun e' => absurd e' e) id⟩
  · by_cases e : s' = s
    · subst e
      rw [if_pos rfl, atKey_put_same hT.isMap (olit_key _)]
    · rw [if_neg e, atKey_put_other (olit_ne e)]
      exact h.at' s' (((hh s').1 hs').elim (fun e' => absurd e' e) id) z
  · by_cases e : s' = s
    · subst e
      rw [if_pos rfl]
      refine ⟨1, _, h2, by omega, ?_⟩
      exact InA.put (by rw [hits]; exact InA.nil) tidy_empty hA o k
    · rw [if_neg e]
      have hs'' := ((hh s').1 hs').elim (fun e' => absurd e' e) id
      obtain ⟨n', D', ho', hn', ha'⟩ := h.inn s' hs''
      refine ⟨n', D', om_fr ho' hf (h.ne s' hs''), by omega, ?_⟩
      rw [itsI_ad_other L o k e]; exact ha'
  · rcases (hh a).1 ha with rfl | ha'
    · rcases (hh b).1 hb with rfl | hb'
      · rfl
      · rw [if_pos rfl, if_neg (hno b hb')] at e
        have := hbl b hb'; omega
    · rw [if_neg (hno a ha')] at e
      rcases (hh b).1 hb with rfl | hb'
      · rw [if_pos rfl] at e
        have := hbl a ha'; omega
      · rw [if_neg (hno b hb')] at e
        exact h.inj a b ha' hb' e
  · show (if s' = s then w.heap.size else bl s') ≠ ob
    by_cases e : s' = s
    · rw [if_pos e]; omega
    · rw [if_neg e]; exact h.ne s' (((hh s').1 hs').elim (fun e' => absurd e' e) id)
  · rintro j (rfl | rfl | ⟨s', hs', rfl⟩)
    · exact .inl (.inl rfl)
    · exact .inl (.inr (.inl rfl))
    · rcases (hh s').1 hs' with e | hs''
      · subst e
        dsimp only
        rw [if_pos rfl]; exact .inr (Nat.le_refl _)
      · dsimp only
        rw [if_neg (hno s' hs'')]; exact .inl (.inr (.inr ⟨s', hs'', rfl⟩))
theorem ChP.rm_some {w w' : World} {cb ob no N n : Nat} {D Di : DataW Nat} {bl : Int -> Nat} {L : List It} {s o : Int} (h : ChP w cb ob no N D bl L) (hA : AscI L) (hs : HasS L s) (hi : OMi w (bl s) n Di) (hn : n <= N) (ha : InA Di (itsI L s))
    (ho : OMi w' (bl s) n (Di.del (olit o))) (g : w.grownBy w' (some (bl s))) (hne : itsI (rmI L s o) s ≠ []) : ChStep w w' cb N (rmI L s o) (chfoot cb ob bl L) := by
  obtain ⟨h1, h2⟩ := h.cb_ne
  have hf : Fr (fun j => j = bl s) w w' := .of_grown g (by rintro j e; cases e; rfl)
  have hh : ∀ s', HasS (rmI L s o) s' ↔ HasS L s' := fun s' => by
    by_cases e : s' = s
    · subst e; exact ⟨fun _ => hs, fun _ => hasS_its.2 hne⟩
    · exact hasS_rm_other e
  refine ⟨chfoot cb ob bl (rmI L s o), ⟨ob, no, D, bl, ⟨(hf.block cb (lB h.blk) (h2 s hs)).trans h.blk, om_fr h.own hf (fun e => h.ne s hs e.symm), h.le, fun s' => ?_, fun s' hs' => h.at' s' ((hh s').1 hs'), fun s' hs' => ?_, fun a b ha hb => h.inj a b ((hh a).1 ha) ((hh b).1 hb), fun s' hs' => h.ne s' ((hh s').1 hs')⟩, rfl⟩, hf.mono (fun j _ e => .inr (.inr ⟨s, hs, e⟩)), ?_⟩
  · rw [h.has]; congr 1; exact propext (hh s').symm
  · by_cases e : s' = s
    · subst e
      exact ⟨n, _, ho, hn, ha.del (hi.tidy intK) hA o⟩
    · obtain ⟨n', D', ho', hn', ha'⟩ := h.inn s' ((hh s').1 hs')
      refine ⟨n', D', om_fr ho' hf (fun e' => e (h.inj s' s ((hh s').1 hs') hs e')), hn', ?_⟩
      rw [itsI_rm_other L o e]; exact ha'
  · rintro j (rfl | rfl | ⟨s', hs', rfl⟩)
    · exact .inl (.inl rfl)
    · exact .inl (.inr (.inl rfl))
    · exact .inl (.inr (.inr ⟨s', (hh s').1 hs', rfl⟩))
theorem ChP.gone {w w' : World} {cb ob no N : Nat} {D : DataW Nat} {bl : Int -> Nat} {L L' : List It} {s : Int} {S : Nat -> Prop} (h : ChP w cb ob no N D bl L) (hS : ∀ j, S j -> j = ob \/ (HasS L s /\ j = bl s)) (hf : Fr S w w') (ho : OMo w' ob no (D.del (olit s)))
    (hh : ∀ s', HasS L' s' ↔ HasS L s' /\ s' ≠ s) (hi : ∀ s', s' ≠ s -> itsI L' s' = itsI L s') : ChStep w w' cb N L' (chfoot cb ob bl L) := by
  obtain ⟨h1, h2⟩ := h.cb_ne
  refine ⟨chfoot cb ob bl L', ⟨ob, no, _, bl, ⟨(hf.block cb (lB h.blk) (fun hs => (hS cb hs).elim h1 (fun e => h2 s e.1 e.2))).trans h.blk, ho, h.le, fun s' => ?_, fun s' hs' z => ?_, fun s' hs' => ?_, fun a b ha hb => h.inj a b ((hh a).1 ha).1 ((hh b).1 hb).1, fun s' hs' => h.ne s' ((hh s').1 hs').1⟩, rfl⟩, hf.mono (fun j _ hj => (hS j hj).elim (fun e => .inr (.inl e)) (fun e => .inr (.inr ⟨s, e.1, e.2⟩))), ?_⟩
  · by_cases e : s' = s
    · subst e
      rw [has_del_same]
      symm; rw [decide_eq_false_iff_not, hh]; exact fun h => h.2 rfl
    · rw [has_del_other (olit_ne e), h.has]
      congr 1
      apply propext
      rw [hh]
      exact ⟨fun h => ⟨h, e⟩, fun h => h.1⟩
  · obtain ⟨a, b⟩ := (hh s').1 hs'
    rw [atKey_del_other (olit_ne b)]; exact h.at' s' a z
  · obtain ⟨a, b⟩ := (hh s').1 hs'
    obtain ⟨n', D', ho', hn', ha'⟩ := h.inn s' a
    refine ⟨n', D', om_fr ho' hf (fun hs => (hS _ hs).elim (h.ne s' a) (fun e => b (h.inj s' s a e.1 e.2))), hn', ?_⟩
    rw [hi s' b]; exact ha'
  · rintro j (rfl | rfl | ⟨s', hs', rfl⟩)
    · exact .inl (.inl rfl)
    · exact .inl (.inr (.inl rfl))
    · exact .inl (.inr (.inr ⟨s', ((hh s').1 hs').1, rfl⟩))
theorem ChP.look {w : World} {cb ob no N : Nat} {D : DataW Nat} {bl : Int -> Nat} {L : List It} (h : ChP w cb ob no N D bl L) {s : Int} (hw : (Lit.int .i64 s).wf = true) :
    (Instr.lookup 412 (.map (some ob)) (.int .i64 s) false).run prog w = .ok (.map (if HasS L s then some (bl s) else none)) w := by
  obtain ⟨v, ps, hrun, hv⟩ := h.own.lookup intK mapO (zeroO w) (zd := .nil) (zp := []) rfl (keyI hw)
  rw [hrun]
  by_cases hs : HasS L s
  · rw [if_pos hs]
    rw [h.at' s hs] at hv
    rcases mapR_inv hv with ⟨_, e⟩ | ⟨b, rfl, e⟩
    · cases e
    · cases e; rfl
  · rw [if_neg hs]
    have h0 : Maps.has D (olit s) = false := by rw [h.has]; simp [hs]
    rw [atKey_of_not_has h0] at hv
    rcases mapR_inv hv with ⟨rfl, _⟩ | ⟨b, rfl, e⟩
    · rfl
    · cases e
theorem OMo.look_of {w : World} {ob no : Nat} {D : DataW Nat} (h : OMo w ob no D) {s : Int} {b : Nat} (hw : (Lit.int .i64 s).wf = true) (ha : ∀ z, D.atKey (olit s) z = .held b) :
    (Instr.lookup 412 (.map (some ob)) (.int .i64 s) false).run prog w = .ok (.map (some b)) w := by
  obtain ⟨v, ps, hrun, hv⟩ := World.ownsMap.lookup h intK mapO (zeroO w) (zd := .nil) (zp := []) rfl (keyI hw)
  rw [hrun]
  rw [ha] at hv
  rcases mapR_inv hv with ⟨_, e⟩ | ⟨b', rfl, e⟩
  · cases e
  · cases e; rfl
def HasO (L : List It) (s o : Int) : Prop := ∃ x ∈ itsI L s, x.off = o
instance (L : List It) (s o : Int) : Decidable (HasO L s o) := by unfold HasO; infer_instance
theorem OMi.look {w : World} {b n : Nat} {D : DataW Nat} (h : OMi w b n D) {L : List It} {s : Int} (ha : InA D (itsI L s)) {o : Int} (hw : (Lit.int .i64 o).wf = true) :
    ∃ v, (Instr.lookup 411 (.map (some b)) (.int .i64 o) true).run prog w = .ok (.tuple #[v, .bool (decide (HasO L s o))]) w := by
  obtain ⟨v, ps, hrun, hv⟩ := World.ownsMap.look_ok h intK mapI (zeroI w) (zd := sdat ByteArray.empty) (zp := []) (strE_mk (by unfold maxLen; simp)) (keyI hw)
  have e : decide (∃ x ∈ itsI L s, x.off = o) = decide (HasO L s o) := decide_eq_decide.2 Iff.rfl
  exact ⟨v, by rw [hrun, ha.has, e]⟩
theorem new6 (w : World) : Calls prog 244 #[] w fun e w' => ∃ cb R, e = .returned (.pointer (some ⟨cb, 0, none⟩)) /\ Ch w' cb 0 [] R /\ Below w.heap.size w w' /\ ∀ j, R j -> w.heap.size <= j := by
  go_enter Tryz.func244, Tryz.ntmps244
  have hm := run_makeMap (P := prog) 412 w
  go_wp2_with fail
  go_ret
  have hob : ∀ o, ((w.alloc (.map #[] 0)).alloc o).heap[w.heap.size + 1]? = some o := fun o => by
    show ((w.heap.push _).push o)[w.heap.size + 1]? = some o
    rw [Array.getElem?_push, Array.size_push, if_pos rfl]
  have hno : ∀ s, ¬ HasS [] s := fun s ⟨x, hx, _⟩ => by simp at hx
  refine ⟨w.heap.size + 1, _, rfl, ⟨w.heap.size, 0, .map [], fun _ => 0, ⟨hob _, (World.ownsMap_made w prog _ _).alloc _, Nat.le_refl _, fun s => ?_, fun s hs => absurd hs (hno s), fun s hs => absurd hs (hno s), fun s s' hs => absurd hs (hno s), fun s hs => absurd hs (hno s)⟩, rfl⟩, ((Below.refl _ _).alloc (Nat.le_refl _) _).alloc (by simp) _, ?_⟩
  · symm; exact decide_eq_false (hno s)
  · rintro j (rfl | rfl | ⟨s, hs, _⟩)
    · omega
    · exact Nat.le_refl _
    · exact absurd hs (hno s)
theorem add7 (cb N : Nat) (R : Nat -> Prop) (L : List It) (s o : Int) (k : ByteArray) (w : World) (hs : (Lit.int .i64 s).wf = true) (ho : (Lit.int .i64 o).wf = true) (hk : k.size <= maxLen) (hN : N <= 100000) (hA : AscI L) (h : Ch w cb N L R) :
    Calls prog 246 #[.pointer (some ⟨cb, 0, none⟩), .int .i64 s, .int .i64 o, .string k] w fun e w' => e = .returned (.tuple #[]) /\ ChStep w w' cb (N + 1) (adI L s o k) R := by
  obtain ⟨ob, no, D, bl, p, rfl⟩ := h
  have c0 := qB (i := 0) p.blk
  simp only [List.getElem?_toArray, List.getElem?_cons_zero] at c0
  have hbm := lB p.blk
  have KS := hid (keyI hs)
  have KO := hid (keyI ho)
  have KE := hid (strE_mk hk)
  have HA := hid hA
  have hno := p.le
  have lk := p.look hs
  have eqn := fun (w : World) (r : Option Nat) => run_eql_map_nil (P := prog) w 411 3 9 r mapI
  by_cases hh : HasS L s
  · obtain ⟨n, Di, hi, hn, ha⟩ := p.inn s hh
    have HI := hid hi
    have HAI := hid ha
    have P := hid p
    have HH := hid hh
    obtain ⟨b, hb⟩ : ∃ b, bl s = b := ⟨_, rfl⟩
    rw [if_pos hh, hb] at lk
    rw [hb] at HI
    have HB := hid hb
    clear hs ho hk hA p hi ha hh hb
    go_enter Tryz.func246, Tryz.ntmps246
    go_wp2_with (first
      | (at_mapUpdate; (refine wpList_mapUpdate_own _ rfl _ _ _ 411 rfl 3 9 intK mapI (plainElem prog 9) b n Di rfl HI.out (by unfold maxLen; omega) _ _ (olit o) rfl rfl KO.out (sdat k) [] KE.out ?_); intro w1 hown1 hgrow1) | fail)
    go_end0
    have hb := HB.out
    subst hb
    exact ⟨rfl, P.out.add_has HA.out HH.out HI.out hn HAI.out hown1 hgrow1⟩
  · have P := hid p
    have HH := hid hh
    have HO := hid (p.own.alloc (.map #[] 0))
    have hm := run_makeMap (P := prog) 411 w
    rw [if_neg hh] at lk
    have HT := hid ((p.own.tidy intK).isMap)
    have hob := p.own.lt
    have HS := hid hs
    have FB := hid p.blk
    clear hs ho hk hA p hh
    go_enter Tryz.func246, Tryz.ntmps246
    go_wp2_with (at_mapUpdate; refine Stop.out ?_)
    refine Stop.of (wpList_mapUpdate_own _ rfl _ _ _ 412 rfl 3 411 intK mapO mapR ob no D rfl HO.out (by unfold maxLen; omega) _ _ (olit s) rfl rfl KS.out (.held w.heap.size) [] rfl ?_)
    intro w1 hown1 hgrow1
    have OW := hid hown1
    have GW := hid hgrow1
    have lk2 := OMo.look_of hown1 HS.out (fun z => atKey_put_same HT.out (olit_key s) (.held w.heap.size) z)
    have OI := hid (show OMi w1 w.heap.size 0 (.map []) from (World.ownsMap_made w prog 3 (plainElem prog 9)).kept hgrow1 (fun e => by cases e; omega))
    have F1 : w1.heap[cb]? = some (.cells #[.map (some ob)] 414 (0, 0)) := (hgrow1.block cb (by simp; omega) (fun e => by cases e; exact P.out.cb_ne.1 rfl)).trans ((Below.heap_alloc _ _ _ hbm).trans FB.out)
    have d0 := qB (i := 0) F1
    simp only [List.getElem?_toArray, List.getElem?_cons_zero] at d0
    have hb1 := lB F1
    clear hown1 hgrow1 F1 lk hm c0
    go_wp2_with (first
      | (at_mapUpdate; (refine wpList_mapUpdate_own _ rfl _ _ _ 411 rfl 3 9 intK mapI (plainElem prog 9) w.heap.size 0 (.map []) rfl OI.out (by unfold maxLen; omega) _ _ (olit o) rfl rfl KO.out (sdat k) [] KE.out ?_); intro w2 hown2 hgrow2) | fail)
    go_end0
    exact ⟨rfl, P.out.add_new HA.out HH.out OW.out GW.out hown2 hgrow2⟩
theorem remove12 (cb N : Nat) (R : Nat -> Prop) (L : List It) (s o : Int) (w : World) (hs : (Lit.int .i64 s).wf = true) (ho : (Lit.int .i64 o).wf = true) (hN : N <= 100000) (hA : AscI L) (h : Ch w cb N L R) :
    Calls prog 221 #[.pointer (some ⟨cb, 0, none⟩), .int .i64 s, .int .i64 o] w fun e w' => e = .returned (.bool (decide (HasO L s o))) /\ ChStep w w' cb N (rmI L s o) R := by
  obtain ⟨ob, no, D, bl, p, rfl⟩ := h
  have c0 := qB (i := 0) p.blk
  simp only [List.getElem?_toArray, List.getElem?_cons_zero] at c0
  have hbm := lB p.blk
  have KS := hid (keyI hs)
  have KO := hid (keyI ho)
  have HA := hid hA
  have hno := p.le
  have lk := p.look hs
  by_cases hh : HasS L s
  · obtain ⟨n, Di, hi, hn, ha⟩ := p.inn s hh
    obtain ⟨v, lk2⟩ := OMi.look hi ha ho
    have HI := hid hi
    have HAI := hid ha
    have P := hid p
    have HH := hid hh
    obtain ⟨b, hb⟩ : ∃ b, bl s = b := ⟨_, rfl⟩
    rw [if_pos hh, hb] at lk
    rw [hb] at HI lk2
    have HB := hid hb
    by_cases hO : HasO L s o
    · have HO := hid hO
      rw [decide_eq_true hO] at lk2 ⊢
      obtain ⟨m, hm⟩ : ∃ m, (itsI (rmI L s o) s).length = m := ⟨_, rfl⟩
      have SZ := hid (show Maps.size (Di.del (olit o)) = m from by rw [<- hm]; exact (ha.del (hi.tidy intK) hA o).size)
      have HM := hid hm
      clear hs ho hA p hi ha hh hb hO hm
      go_enter Tryz.func221, Tryz.ntmps221
      go_wp2_with (at_delete; refine Stop.out ?_)
      refine Stop.of (wpList_delete_own _ rfl _ _ 411 3 rfl 9 intK mapI (plainElem prog 9) b n Di rfl HI.out _ (olit o) rfl KO.out ?_)
      intro w1 hown1 hturn1
      have OW := hid hown1
      have GW := hid hturn1.grown
      have hf : Fr (fun j => j = b) w w1 := .of_grown hturn1.grown (by rintro j e; cases e; rfl)
      have HF := hid hf
      have hcb : ¬ cb = b := fun e => P.out.cb_ne.2 s HH.out (e.trans HB.out.symm)
      have hobb : ¬ ob = b := fun e => P.out.ne s HH.out (HB.out.trans e.symm)
      have F1 := (hf.block cb hbm hcb).trans P.out.blk
      have OO := hid (show OMo w1 ob no D from om_fr P.out.own hf hobb)
      have d0 := qB (i := 0) F1
      simp only [List.getElem?_toArray, List.getElem?_cons_zero] at d0
      have hb1 := lB F1
      clear hown1 hturn1 hf F1 c0 lk lk2
      have hln := World.ownsMap.len OW.out mapI 3
      rw [SZ.out] at hln
      by_cases hm0 : m = 0
      · subst hm0
        have HM0 := hid (List.eq_nil_of_length_eq_zero HM.out)
        go_wp2_with (first
          | (at_delete; (refine wpList_delete_own _ rfl _ _ 412 3 rfl 411 intK mapO mapR ob no D rfl OO.out _ (olit s) rfl KS.out ?_); intro w2 hown2 hturn2) | fail)
        go_ret
        have hb := HB.out
        refine ⟨rfl, P.out.gone (S := fun j => j = b \/ j = ob) (s := s) (fun j hj => hj.elim (fun e => .inr ⟨HH.out, e.trans hb.symm⟩) .inl) ((HF.out.mono (T := fun j => j = b \/ j = ob) (fun j _ e => .inl e)).trans (T := fun j => j = ob) (.of_grown hturn2.grown (by rintro j e; cases e; rfl)) (fun j e => .inl (.inr e))) hown2 (fun s' => ?_) (fun s' hne => itsI_rm_other L o hne)⟩
        constructor
        · intro h1
          have hne : s' ≠ s := fun e => by
            subst e
            exact hasS_its.1 h1 HM0.out
          exact ⟨(hasS_rm_other hne).1 h1, hne⟩
        · rintro ⟨h1, h2⟩; exact (hasS_rm_other h2).2 h1
      · have hm1 : ((m : Int) == 0) = false := by simp; omega
        have HNE := hid (show itsI (rmI L s o) s ≠ [] from fun e => hm0 (by rw [<- HM.out, e]; rfl))
        clear hm0
        go_wp2_with fail
        go_ret
        have hb := HB.out
        subst hb
        exact ⟨rfl, P.out.rm_some HA.out HH.out HI.out hn HAI.out OW.out GW.out HNE.out⟩
    · have HO := hid hO
      rw [decide_eq_false hO] at lk2 ⊢
      clear hs ho hA p hi ha hh hb hO
      go_enter Tryz.func221, Tryz.ntmps221
      go_wp2_with fail
      go_ret
      have e : rmI L s o = L := rmI_none (fun x hx h => HO.out ⟨x, mem_itsI.2 ⟨hx, h.1⟩, h.2⟩)
      rw [e]
      exact ⟨rfl, chfoot cb ob bl L, ⟨ob, no, D, bl, P.out, rfl⟩, Fr.refl _ _, fun j hj => .inl hj⟩
  · have P := hid p
    have HH := hid hh
    have hO : ¬ HasO L s o := fun ⟨x, hx, _⟩ => hh ⟨x, (mem_itsI.1 hx).1, (mem_itsI.1 hx).2⟩
    have HO := hid hO
    rw [if_neg hh] at lk
    have ln := Maps.look_nil (w := w) true intK mapI (zeroI w) (keyI ho)
    simp only [if_true] at ln
    rw [decide_eq_false hO]
    clear hs ho hA p hh hO
    go_enter Tryz.func221, Tryz.ntmps221
    go_wp2_with fail
    go_ret
    have e : rmI L s o = L := rmI_none (fun x hx h => HO.out ⟨x, mem_itsI.2 ⟨hx, h.1⟩, h.2⟩)
    rw [e]
    exact ⟨rfl, chfoot cb ob bl L, ⟨ob, no, D, bl, P.out, rfl⟩, Fr.refl _ _, fun j hj => .inl hj⟩
end Go.Proofs.YtbikkioipamlmaaGreatDoor.C17
namespace Go.Proofs.YtbikkioipamlmaaGreatDoor.Q18
open Go.RowKit
structure Item where
  key : ByteArray
  at' : Int
def ltI (a b : Item) : Bool := decide (orD (cmpI a.at' b.at') (cmpS a.key b.key) < 0)
theorem keepA {n : Nat} {W0 W : World} {o : Obj} (h : (∀ b o, b < n -> W.cell? ⟨b, o, none⟩ = W0.cell? ⟨b, o, none⟩) /\ Below n W0 W) (h0 : n <= W0.heap.size) :
    (∀ b o', b < n -> (W.alloc o).cell? ⟨b, o', none⟩ = W0.cell? ⟨b, o', none⟩) /\ Below n W0 (W.alloc o) := by
  have k := h.2.alloc (Nat.le_trans h0 h.2.size) o
  exact ⟨fun b o hlt => k.cell (p := ⟨b, o, none⟩) hlt, k⟩
theorem elems_two (W : World) (b : Nat) (hb : b = W.heap.size) (t : TypeId) (x y : Int) : Elems .i64 (W.alloc (.cells #[.int .i64 x, .int .i64 y] t)) (some ⟨b, 0, none⟩) 2 [x, y] := by
  subst hb
  intro i hi
  refine ⟨_, _, rfl, by simp, ?_⟩
  rw [World.cell?_alloc_at _ _ _ _ rfl]
  have : i = 0 \/ i = 1 := by omega
  rcases this with rfl | rfl <;> rfl
theorem ret_bool' {a b : Bool} (h : a = b) : Ending.returned (.bool a) = .returned (.bool b) := by rw [h]
theorem Elems.drew {k : IntKind} {w : World} {a : Option Addr} {n : Nat} {zs : List Int} (h : Elems k w a n zs) : Elems k w.drew a n zs := fun i hi => h i hi
theorem sooner18 (k1 k2 : ByteArray) (a1 a2 : Int) (w : World) :
    Calls prog 298 #[.agg #[.string k1, .int .i64 a1], .agg #[.string k2, .int .i64 a2]] w fun e w' => e = .returned (.bool (ltI ⟨k1, a1⟩ ⟨k2, a2⟩)) /\ Below w.heap.size w w' := by
  have c1 := fun W => cmpint a1 a2 W
  have c2 := fun W => cmpstr k1 k2 W
  have c3 := fun (W : World) (b : Nat) (he : Elems .i64 W (some ⟨b, 0, none⟩) 2 [cmpI a1 a2, cmpS k1 k2]) => orint (some ⟨b, 0, none⟩) 2 (cmpI a1 a2) (cmpS k1 k2) W he
  have HL := hid (show ltI ⟨k1, a1⟩ ⟨k2, a2⟩ = decide (orD (cmpI a1 a2) (cmpS k1 k2) < 0) from rfl)
  generalize orD (cmpI a1 a2) (cmpS k1 k2) = r at *
  generalize cmpI a1 a2 = x at *
  generalize cmpS k1 k2 = y at *
  generalize ltI ⟨k1, a1⟩ ⟨k2, a2⟩ = L at *
  have C1 := hid c1; have C2 := hid c2; have C3 := hid c3
  clear c1 c2 c3
  go_enter Tryz.func298, Tryz.ntmps298
  go_wp2_with fail
  go_region_held3 (fun w' => (∀ b o, b < w.heap.size + 2 -> w'.cell? ⟨b, o, none⟩ = ((w.alloc (.cells #[.string k1, .int .i64 a1] 337)).alloc (.cells #[.string k2, .int .i64 a2] 337)).cell? ⟨b, o, none⟩) /\ Below (w.heap.size + 2) ((w.alloc (.cells #[.string k1, .int .i64 a1] 337)).alloc (.cells #[.string k2, .int .i64 a2] 337)) w')
    (first | exact ⟨fun _ _ _ => rfl, (Below.refl _ _).drew⟩ | exact keepA (n := w.heap.size + 2) (by assumption) (by simp) | assumption)
    (first
      | (go_at_call 187; (with_reducible refine (C1.out _).mono ?_); rintro e w1 ⟨rfl, rfl⟩)
      | (go_at_call 183; (with_reducible refine (C2.out _).mono ?_); rintro e w1 ⟨rfl, rfl⟩)
      | (go_at_call 197; (with_reducible refine (C3.out _ _ ?_).mono ?_); (exact Elems.drew (elems_two _ _ (by simp) _ _ _)); rintro e w1 ⟨rfl, rfl⟩))
  go_wp2_with fail
  go_ret
  exact ⟨ret_bool' HL.out.symm, ((((Below.refl _ _).alloc (Nat.le_refl _) _).alloc (by simp <;> omega) _).alloc (by simp <;> omega) _).drew⟩
def itemCells : List Item -> List Value
  | [] => []
  | x :: l => .string x.key :: .int .i64 x.at' :: itemCells l
theorem itemCells_append (l l' : List Item) : itemCells (l ++ l') = itemCells l ++ itemCells l' := by
  induction l with
  | nil => rfl
  | cons x l ih => simp [itemCells, ih]
theorem itemCells_at (l : List Item) (i : Nat) (x : Item) (h : l[i]? = some x) : (itemCells l)[i * 2]? = some (.string x.key) /\ (itemCells l)[i * 2 + 1]? = some (.int .i64 x.at') := by
  induction l generalizing i with
  | nil => simp at h
  | cons y l ih =>
    cases i with
    | zero => simp at h; subst h; exact ⟨rfl, rfl⟩
    | succ i =>
      have h' : l[i]? = some x := by simpa using h
      have := ih i h'
      rw [show (i + 1) * 2 = i * 2 + 1 + 1 from by omega]
      exact this
theorem itemCells_set (l : List Item) (i : Nat) (x : Item) : itemCells (l.set i x) = ((itemCells l).set (i * 2) (.string x.key)).set (i * 2 + 1) (.int .i64 x.at') := by
  induction l generalizing i with
  | nil => simp [itemCells]
  | cons y l ih =>
    cases i with
    | zero => rfl
    | succ i =>
      rw [show (i + 1) * 2 = i * 2 + 1 + 1 from by omega]
      simp [itemCells, ih]
def NoRes (e : Ending) : Prop := e = .returned (.tuple #[])
def swapL (l : List Item) (i k : Nat) : List Item :=
  match l[i]?, l[k]? with
  | some x, some y => (l.set i y).set k x
  | _, _ => l
theorem grown_tr {a b c : World} {r : Option Nat} (h : a.grownBy b r) (k : b.grownBy c r) : a.grownBy c r :=
  ⟨k.os.trans h.os, k.tape.trans h.tape, k.output.trans h.output, Nat.le_trans h.size k.size, fun j hj hne => (k.block j (Nat.lt_of_lt_of_le hj h.size) hne).trans (h.block j hj hne)⟩
theorem grown_drew' {w w' : World} {r : Option Nat} (h : w.grownBy w' r) : w.grownBy w'.drew r := ⟨h.os, h.tape, h.output, h.size, h.block⟩
theorem swap_ne (g cap base : Nat) (l : List Item) (i k : Nat) (x y : Item) (w : World) (_hn : l.length <= 9223372036854775807) (hx : l[i]? = some x) (hy : l[k]? = some y) (hik : i < k \/ k < i)
    (h : w.ownsRow base 337 2 (.slice (some ⟨g, 0, none⟩) l.length cap) l.length (itemCells l)) :
    Calls prog 286 #[.slice (some ⟨g, 0, none⟩) l.length cap, .int .i64 (i : Int), .int .i64 (k : Int)] w
      fun e w' => NoRes e /\ w'.ownsRow base 337 2 (.slice (some ⟨g, 0, none⟩) l.length cap) l.length (itemCells (swapL l i k)) /\ w.grownBy w' (some g) := by
  have hi : i < l.length := by rw [List.getElem?_eq_some_iff] at hx; exact hx.1
  have hk : k < l.length := by rw [List.getElem?_eq_some_iff] at hy; exact hy.1
  obtain ⟨x0, x1⟩ := itemCells_at l i x hx
  obtain ⟨y0, y1⟩ := itemCells_at l k y hy
  have a0 := h.cellAt (i * 2) (by omega)
  have a1 := h.cellAt (i * 2 + 1) (by omega)
  have b0 := h.cellAt (k * 2) (by omega)
  have b1 := h.cellAt (k * 2 + 1) (by omega)
  rw [x0] at a0; rw [x1] at a1; rw [y0] at b0; rw [y1] at b1
  have f0 := h.frozenAt (i * 2)
  have f1 := h.frozenAt (i * 2 + 1)
  have f2 := h.frozenAt (k * 2)
  have f3 := h.frozenAt (k * 2 + 1)
  have H := hid h
  have HX := hid hx
  have HY := hid hy
  clear h hx hy x0 x1 y0 y1
  have hii : (i : Int) < l.length := by omega
  have hkk : (k : Int) < l.length := by omega
  have ne0 : ¬ i * 2 = k * 2 := by omega
  have ne1 : ¬ i * 2 + 1 = k * 2 := by omega
  have ne2 : ¬ i * 2 = k * 2 + 1 := by omega
  have ne3 : ¬ k * 2 = i * 2 := by omega
  have ne4 : ¬ k * 2 + 1 = i * 2 := by omega
  have ne5 : ¬ k * 2 = i * 2 + 1 := by omega
  have ne6 : ¬ i = k := by omega
  go_enter Tryz.func286, Tryz.ntmps286
  go_wp2_with fail
  go_region
  go_end0
  obtain ⟨s1, g1⟩ := H.out.stored (i * 2) (.string y.key)
  obtain ⟨s2, g2⟩ := s1.stored (i * 2 + 1) (.int .i64 y.at')
  obtain ⟨s3, g3⟩ := s2.stored (k * 2) (.string x.key)
  obtain ⟨s4, g4⟩ := s3.stored (k * 2 + 1) (.int .i64 x.at')
  refine ⟨rfl, ?_, grown_drew' (grown_tr (grown_tr (grown_tr g1 g2) g3) g4)⟩
  have e : swapL l i k = (l.set i y).set k x := by unfold swapL; rw [HX.out, HY.out]
  rw [e, itemCells_set, itemCells_set]
  exact s4.drew
theorem swap_eq (g cap base : Nat) (l : List Item) (i : Nat) (x : Item) (w : World) (_hn : l.length <= 9223372036854775807) (hx : l[i]? = some x)
    (h : w.ownsRow base 337 2 (.slice (some ⟨g, 0, none⟩) l.length cap) l.length (itemCells l)) :
    Calls prog 286 #[.slice (some ⟨g, 0, none⟩) l.length cap, .int .i64 (i : Int), .int .i64 (i : Int)] w
      fun e w' => NoRes e /\ w'.ownsRow base 337 2 (.slice (some ⟨g, 0, none⟩) l.length cap) l.length (itemCells (swapL l i i)) /\ w.grownBy w' (some g) := by
  have hi : i < l.length := by rw [List.getElem?_eq_some_iff] at hx; exact hx.1
  obtain ⟨x0, x1⟩ := itemCells_at l i x hx
  have a0 := h.cellAt (i * 2) (by omega)
  have a1 := h.cellAt (i * 2 + 1) (by omega)
  rw [x0] at a0; rw [x1] at a1
  have f0 := h.frozenAt (i * 2)
  have f1 := h.frozenAt (i * 2 + 1)
  have H := hid h
  have HX := hid hx
  clear h hx x0 x1
  have hii : (i : Int) < l.length := by omega
  go_enter Tryz.func286, Tryz.ntmps286
  go_wp2_with fail
  go_region
  go_end0
  obtain ⟨s1, g1⟩ := H.out.stored (i * 2) (.string x.key)
  obtain ⟨s2, g2⟩ := s1.stored (i * 2 + 1) (.int .i64 x.at')
  obtain ⟨s3, g3⟩ := s2.stored (i * 2) (.string x.key)
  obtain ⟨s4, g4⟩ := s3.stored (i * 2 + 1) (.int .i64 x.at')
  refine ⟨rfl, ?_, grown_drew' (grown_tr (grown_tr (grown_tr g1 g2) g3) g4)⟩
  have e : swapL l i i = (l.set i x).set i x := by unfold swapL; rw [HX.out]
  rw [e, itemCells_set, itemCells_set]
  exact s4.drew
theorem swapL_length (l : List Item) (i k : Nat) : (swapL l i k).length = l.length := by
  unfold swapL; split <;> simp
theorem swap25 (g cap base : Nat) (l : List Item) (i k : Nat) (w : World) (hn : l.length <= 9223372036854775807) (hi : i < l.length) (hk : k < l.length)
    (h : w.ownsRow base 337 2 (.slice (some ⟨g, 0, none⟩) l.length cap) l.length (itemCells l)) :
    Calls prog 286 #[.slice (some ⟨g, 0, none⟩) l.length cap, .int .i64 (i : Int), .int .i64 (k : Int)] w
      fun e w' => NoRes e /\ w'.ownsRow base 337 2 (.slice (some ⟨g, 0, none⟩) l.length cap) l.length (itemCells (swapL l i k)) /\ w.grownBy w' (some g) := by
  by_cases hik : i = k
  · subst hik
    exact swap_eq g cap base l i l[i] w hn (List.getElem?_eq_getElem hi) h
  · exact swap_ne g cap base l i k l[i] l[k] w hn (List.getElem?_eq_getElem hi) (List.getElem?_eq_getElem hk) (by omega) h
def ltAt (l : List Item) (i k : Nat) : Bool :=
  match l[i]?, l[k]? with
  | some x, some y => ltI x y
  | _, _ => false
def siftUp (l : List Item) (i : Nat) : List Item :=
  if 0 < i /\ ltAt l i ((i - 1) / 2) = true then siftUp (swapL l i ((i - 1) / 2)) ((i - 1) / 2) else l
termination_by i
decreasing_by omega
def pushL (l : List Item) (x : Item) : List Item := siftUp (l ++ [x]) l.length
structure Hp (w : World) (b base : Nat) (v : Value) (l : List Item) (mp : Value) : Prop where
  blk : w.heap[b]? = some (.cells #[v, .func (.func 298) #[] #[], mp] 344 (0, 0))
  own : w.ownsRow base 337 2 v l.length (itemCells l)
theorem Hp.ne {w : World} {b base : Nat} {v : Value} {l : List Item} {mp : Value} (h : Hp w b base v l mp) : ∀ g, v.ownBlock = some g -> g ≠ b := by
  intro g hg e
  subst e
  rcases h.own.2 with ⟨rfl, _⟩ | ⟨g', cap, cur, rfl, _, hh, _⟩
  · simp [Value.ownBlock] at hg
  · simp [Value.ownBlock] at hg
    subst hg
    have := h.blk
    rw [hh] at this
    simp at this
theorem Hp.below {w w' : World} {b base : Nat} {v mp : Value} {l : List Item} (h : Hp w b base v l mp) (hb : Below w.heap.size w w') : Hp w' b base v l mp :=
  ⟨by rw [hb.block b (lB h.blk)]; exact h.blk, own_same h.own (fun g hg => hb.block g (h.own.lt g hg).2)⟩
theorem Hp.swapped {w w' : World} {b base g cap n : Nat} {mp : Value} {l l' : List Item} (h : Hp w b base (.slice (some ⟨g, 0, none⟩) n cap) l mp) (hg : w.grownBy w' (some g))
    (hown : w'.ownsRow base 337 2 (.slice (some ⟨g, 0, none⟩) n cap) l.length (itemCells l')) (hl : l'.length = l.length) : Hp w' b base (.slice (some ⟨g, 0, none⟩) n cap) l' mp :=
  ⟨by rw [hg.block b (lB h.blk) (fun e => h.ne g rfl (by simpa using e.symm))]; exact h.blk, by rw [hl]; exact hown⟩
theorem swapHp {w : World} {b base g cap n : Nat} {mp : Value} {l : List Item} (h : Hp w b base (.slice (some ⟨g, 0, none⟩) n cap) l mp) (hn : l.length = n) (i k : Nat) (h64 : n <= 9223372036854775807) (hi : i < l.length) (hk : k < l.length) :
    Calls prog 286 #[.slice (some ⟨g, 0, none⟩) n cap, .int .i64 (i : Int), .int .i64 (k : Int)] w
      fun e w' => NoRes e /\ Hp w' b base (.slice (some ⟨g, 0, none⟩) n cap) (swapL l i k) mp /\ w.grownBy w' (some g) := by
  subst hn
  refine (swap25 g cap base l i k w h64 hi hk h.own).mono ?_
  rintro e w' ⟨h1, h2, h3⟩
  exact ⟨h1, h.swapped h3 h2 (swapL_length _ _ _), h3⟩
theorem iteminfo : (prog.info? 337).map (fun i => (i.zero, i.size, i.bytes)) = some (some (.agg #[.string ByteArray.empty, .int .i64 0]), 2, 24) := by kernel_rfl
theorem at_second (w : World) (o o' : Obj) : ((w.alloc o).alloc o').drew.heap[w.heap.size + 1]? = some o' := by
  show ((w.heap.push o).push o')[w.heap.size + 1]? = some o'
  rw [Array.getElem?_push, Array.size_push, if_pos rfl]
theorem two_size (w : World) (o o' : Obj) : ((w.alloc o).alloc o').drew.heap.size = w.heap.size + 2 := by
  show ((w.heap.push o).push o').size = _
  simp
theorem size_two (w : World) (o o' : Obj) : w.heap.size <= ((w.alloc o).alloc o').drew.heap.size := by
  rw [two_size]; omega
theorem blk_grown {w w' : World} {o o' : Obj} {b base : Nat} {v mp : Value} {l : List Item} (h : Hp w b base v l mp) (hg : ((w.alloc o).alloc o').drew.grownBy w' v.ownBlock) : w'.heap[b]? = some (.cells #[v, .func (.func 298) #[] #[], mp] 344 (0, 0)) := by
  have hb := lB h.blk
  rw [hg.block b (by rw [two_size]; omega) (fun e => h.ne b e.symm rfl)]
  show ((w.heap.push o).push o')[b]? = _
  rw [Array.getElem?_push, Array.getElem?_push, Array.size_push, if_neg (by omega), if_neg (by omega), h.blk]
theorem one2 (k : ByteArray) (n : Int) : ∀ u ∈ [Value.string k, .int .i64 n], u.oneCell' = true := by
  intro u hu
  simp at hu
  rcases hu with rfl | rfl <;> rfl
theorem le63 {n : Nat} (h : n + 1 <= 1000000) : n + 1 <= maxLen := Nat.le_trans h (by decide)
theorem push_first {w w2 : World} {b base g cap : Nat} {v mp : Value} {l : List Item} {x : Item} {o o' : Obj} (h : Hp w b base v l mp)
    (hown : w2.ownsRow base 337 2 (.slice (some ⟨g, 0, none⟩) (l.length + 1) cap) (l.length + 1) (itemCells l ++ [.string x.key, .int .i64 x.at']))
    (hgrow : ((w.alloc o).alloc o').drew.grownBy w2 v.ownBlock) (hat : v.ownBlock = some g \/ g = w.heap.size + 2) :
    ∃ g' cap', w.heap.size <= (w2.setCell ⟨b, 0, none⟩ (.slice (some ⟨g, 0, none⟩) (l.length + 1) cap)).heap.size /\ (v.ownBlock = some g' \/ w.heap.size <= g') /\
      Hp (w2.setCell ⟨b, 0, none⟩ (.slice (some ⟨g, 0, none⟩) (l.length + 1) cap)) b base (.slice (some ⟨g', 0, none⟩) (l.length + 1) cap') (l ++ [x]) mp /\
      Fr (fun k => k = b \/ v.ownBlock = some k) w (w2.setCell ⟨b, 0, none⟩ (.slice (some ⟨g, 0, none⟩) (l.length + 1) cap)) := by
  have k2 := blk_grown h hgrow
  have hgb : g ≠ b := by
    rcases hat with e | e
    · exact h.ne g e
    · have := lB h.blk; omega
  have hs2 := hgrow.size
  rw [two_size] at hs2
  have hsz : (w2.setCell ⟨b, 0, none⟩ (.slice (some ⟨g, 0, none⟩) (l.length + 1) cap)).heap.size = w2.heap.size := by simp [World.setCell]
  refine ⟨g, cap, by omega, hat.imp id (by omega), ⟨?_, ?_⟩, ⟨hgrow.os, hgrow.tape, hgrow.output, by omega, ?_⟩⟩
  · rw [uB k2]; rfl
  · rw [itemCells_append]
    simp only [List.length_append, List.length_cons, List.length_nil, Nat.zero_add]
    refine own_same (w := w2) hown (fun j hj => ?_)
    simp [Value.ownBlock] at hj
    subst hj
    exact Below.heap_setCell _ _ _ _ hgb
  · intro j hj hne
    simp only [not_or] at hne
    rw [Below.heap_setCell _ _ _ _ hne.1, hgrow.block j (by rw [two_size]; omega) (fun e => hne.2 e.symm)]
    show ((w.heap.push o).push o')[j]? = _
    rw [Array.getElem?_push, Array.getElem?_push, Array.size_push, if_neg (by omega), if_neg (by omega)]
theorem push_end {w wr : World} {b base g cap : Nat} {v mp : Value} {l cl : List Item} {x : Item} {n : Nat} (hp : Hp wr b base (.slice (some ⟨g, 0, none⟩) n cap) cl mp) (hf : Fr (fun k => k = b \/ v.ownBlock = some k \/ k = g) w wr)
    (hg : v.ownBlock = some g \/ w.heap.size <= g) (he : pushL l x = cl) :
    NoRes (.returned (.tuple #[])) /\ ∃ v', Hp wr b base v' (pushL l x) mp /\ Fr (fun k => k = b \/ v.ownBlock = some k) w wr /\ ∀ g, v'.ownBlock = some g -> v.ownBlock = some g \/ w.heap.size <= g := by
  refine ⟨rfl, _, he ▸ hp, hf.mono (fun j hj hs => ?_), fun g' h => ?_⟩
  · rcases hs with h | h | h
    · exact .inl h
    · exact .inr h
    · subst h; rcases hg with h | h
      · exact .inr h
      · omega
  · simp [Value.ownBlock] at h; subst h; exact hg
theorem push19 (b base : Nat) (v mp : Value) (l : List Item) (x : Item) (w : World) (hl : l.length + 1 <= 1000000) (h : Hp w b base v l mp) (hbase : base <= w.heap.size) :
    Calls prog 299 #[.pointer (some ⟨b, 0, none⟩), .agg #[.string x.key, .int .i64 x.at']] w fun e w' =>
      NoRes e /\ ∃ v', Hp w' b base v' (pushL l x) mp /\ Fr (fun k => k = b \/ v.ownBlock = some k) w w' /\ ∀ g, v'.ownBlock = some g -> v.ownBlock = some g \/ w.heap.size <= g := by
  obtain ⟨i0, hi, hz0, hz1, hz2⟩ := info_parts iteminfo
  have I1 := hid hi; have I2 := hid hz0; have I3 := hid hz1; have I4 := hid hz2
  have c0 := qB (i := 0) h.blk
  have c1 := qB (i := 1) h.blk
  have f0 := zB (i := 0) h.blk
  have blt := lB h.blk
  simp only [List.getElem?_toArray, List.getElem?_cons_zero, List.getElem?_cons_succ] at c0 c1
  have H := hid h
  clear h hi hz0 hz1 hz2
  go_enter Tryz.func299, Tryz.ntmps299
  go_upto_region 1 with fail
  go_cut [] (fun wx => ∃ g cap, w.heap.size <= wx.heap.size /\ (v.ownBlock = some g \/ w.heap.size <= g) /\ Hp wx b base (.slice (some ⟨g, 0, none⟩) (l.length + 1) cap) (l ++ [x]) mp /\ Fr (fun k => k = b \/ v.ownBlock = some k) w wx)
  case first =>
    go_region_law ((with_reducible apply step_append_lies (hgd := rfl) (t := 338) (base := base) (e := 337) (i := i0) (z := .agg #[.string ByteArray.empty, .int .i64 0]) (size := 2) (bytes := 24) (v := v) (n := l.length) (xs := itemCells l) (m := 1) (news := [.string x.key, .int .i64 x.at']) (ht := Tryz.underlying338) (hi := I1.out) (hz := I2.out) (hsize := I3.out) (hby := I4.out) (hzs := rfl) (ad := ⟨w.heap.size + 1, 0, none⟩) (c := 1) (H := w.heap.size + 2)); (case ho => exact rfl); (case hs => exact rfl); (case hx => exact rfl); (case hsz => decide); (case hown => exact ((H.out.own.alloc _).alloc _).drew); (case hl => exact rfl); (case hnews => exact World.news_of_block (B := w.heap.size + 1) (t := 337) (fr := (0, 0)) (cs := #[.string x.key, .int .i64 x.at']) (at_second _ _ _)); (case h1 => exact one2 _ _); (case hm => decide); (case h63 => exact le63 hl); (case hbytes => omega); (case hbase => exact Nat.le_trans hbase (size_two _ _ _)); (case hH => exact two_size _ _ _); (intro g cap w2 hown hgrow hat hlt); have k2 := hid (blk_grown H.out hgrow); have k0 := qB (i := 0) k2.out; have kf := zB (i := 0) k2.out)
    all_goals
      go_wp2_with fail
      go_meet
      exact push_first H.out hown hgrow hat
  case rest =>
    obtain ⟨g, cap, hsz, hg, hp, hf⟩ := hcut
    have c0 := qB (i := 0) hp.blk
    simp only [List.getElem?_toArray, List.getElem?_cons_zero] at c0
    have P0 := hid hp
    have F0 := hid hf
    have HG := hid hg
    obtain ⟨T, hT⟩ : ∃ T, siftUp (l ++ [x]) l.length = T := ⟨_, rfl⟩
    have HT := hid hT
    have HT' := hid (show pushL l x = T from hT)
    clear hp hf hg hT
    go_wp2_with fail
    go_loopw [4, 5] (fun i _ wr => ∃ (k : Nat) (cl : List Item), k < cl.length /\ cl.length = l.length + 1 /\ i = .int .i64 k /\ siftUp cl k = T /\ Hp wr b base (.slice (some ⟨g, 0, none⟩) (l.length + 1) cap) cl mp /\ Fr (fun k => k = b \/ v.ownBlock = some k \/ k = g) w wr) (fun i _ _ => (intOf i).toNat)
    case atStart => exact ⟨l.length, l ++ [x], by simp, by simp, rfl, HT.out, P0.out, F0.out.mono (fun _ _ h => h.imp id .inl)⟩
    case round =>
      obtain ⟨k, cl, hk, hcl, rfl, hs, hp, hf⟩ := hrel
      have hbl := lB hp.blk
      have b0 := qB (i := 0) hp.blk
      have b1 := qB (i := 1) hp.blk
      simp only [List.getElem?_toArray, List.getElem?_cons_zero, List.getElem?_cons_succ] at b0 b1
      have own := hp.own
      rw [hcl] at own
      have hgl := (own.lt g rfl).2
      have HS := hid hs
      have HP := hid hp
      have HF := hid hf
      have OWN := hid own
      by_cases h0 : 0 < k
      · obtain ⟨u, hu⟩ : ∃ u, (k - 1) / 2 = u := ⟨_, rfl⟩
        have huk : u < k := by omega
        have hii : ((k : Int) - 1) / 2 = (u : Int) := by omega
        obtain ⟨y, hy⟩ : ∃ y, cl[k]? = some y := ⟨_, List.getElem?_eq_getElem hk⟩
        obtain ⟨z, hz⟩ : ∃ z, cl[u]? = some z := ⟨_, List.getElem?_eq_getElem (by omega)⟩
        obtain ⟨y0, y1⟩ := itemCells_at cl k y hy
        obtain ⟨z0, z1⟩ := itemCells_at cl u z hz
        have d0 := own.cellAt (k * 2) (by omega)
        have d1 := own.cellAt (k * 2 + 1) (by omega)
        have d2 := own.cellAt (u * 2) (by omega)
        have d3 := own.cellAt (u * 2 + 1) (by omega)
        rw [y0] at d0; rw [y1] at d1; rw [z0] at d2; rw [z1] at d3
        have hlt : ltAt cl k u = ltI y z := by unfold ltAt; rw [hy, hz]
        have HL := hid hlt
        have SO := hid (fun W => sooner18 y.key z.key y.at' z.at' W)
        have HU := hid hu
        have e1 : (k : Int) < l.length + 1 := by omega
        have e2 : (u : Int) < l.length + 1 := by omega
        clear hp hs hf own hy hz y0 y1 z0 z1 hlt hu
        go_wp2_with fail
        refine wp_region_ext wr.heap.size (by kernel_rfl) (by kernel_rfl) ?_
        have hx := fun (x : Ext wr.heap.size wr) b o h => Ext.cell x b o h
        repeat (go_big_quiet_step (first | (go_at_call 298; with_reducible exact Calls.ext (Nat.le_refl _) (SO.out _)) | (with_reducible exact rfl)))
        refine wpQuiet_nil ?_
        rintro w1 ⟨⟨_, hb⟩, rfl⟩
        clear hx b0 b1 d0 d1 d2 d3
        have HP1 := hid (HP.out.below hb)
        have HF1 := hid (HF.out.trans (.of_below (S := fun _ => False) hb) (fun _ f => f.elim))
        have b0 := qB (i := 0) HP1.out.blk
        simp only [List.getElem?_toArray, List.getElem?_cons_zero] at b0
        clear hb
        by_cases hlt : ltI y z = true
        · rw [hlt]
          have hlt' := HL.out.trans hlt
          clear hlt
          have SW' := hid (swapHp HP1.out hcl k u (by omega) hk (by omega))
          go_wp2_with fail
          with_reducible refine SW'.out.mono ?_
          rintro e w2 ⟨rfl, hp2, hgr⟩
          have HP2 := hid hp2
          have HF2 := hid (HF1.out.trans (.of_grown (S := fun k => k = b \/ v.ownBlock = some k \/ k = g) hgr (by rintro k' h; cases h; exact .inr (.inr rfl))) (fun _ f => .inl f))
          clear hp2 hgr b0
          go_wp2_with fail
          go_roundw
          case rel =>
            refine ⟨u, swapL cl k u, by rw [swapL_length]; omega, by rw [swapL_length]; exact hcl, by go_num, ?_, HP2.out, HF2.out⟩
            rw [<- HS.out, siftUp.eq_1 cl k, HU.out, hlt', if_pos ⟨h0, rfl⟩]
          case measure => simp [intOf]; omega
        · simp only [Bool.not_eq_true] at hlt
          rw [hlt]
          have hlt' := HL.out.trans hlt
          clear hlt
          go_wp2_with fail
          refine bodyPost_ret (results_none rfl _ _ _) rfl ?_
          exact push_end HP1.out HF1.out HG.out (by rw [HT'.out, <- HS.out, siftUp, HU.out, hlt', if_neg (by simp)])
      · obtain rfl : k = 0 := by omega
        go_wp2_with fail
        go_end0
        exact push_end HP.out HF.out HG.out (by rw [HT'.out, <- HS.out, siftUp, if_neg (by omega)])
end Go.Proofs.YtbikkioipamlmaaGreatDoor.Q18
