/-
  Laws and contracts for the statement TopExpired.
-/
import Derived.Test.YtbikkioipamlmaaGreatDoorX10
open Go.Lib (hid)
open Go.Proofs.Tryz (prog)
set_option linter.unusedVariables false
set_option linter.unusedSimpArgs false
set_option maxRecDepth 100000
set_option maxHeartbeats 20000000
namespace Go.Proofs.YtbikkioipamlmaaGreatDoor
open Go.RowKit Go.Shelf L21
attribute [local go_sem] Oper.semAt_some
theorem cells_new (w : World) (xs : List Value) (t : TypeId) : ∀ j u, xs[j]? = some u -> (w.alloc (.cells ⟨xs⟩ t)).cell? ((⟨w.heap.size, 0, none⟩ : Addr).add j) = some u := by
  intro j u hj
  have e := nB w (.cells ⟨xs⟩ t)
  have ea : (⟨w.heap.size, 0, none⟩ : Addr).add j = ⟨w.heap.size, j, none⟩ := by simp [Addr.add]; omega
  rw [ea, qB e]
  simpa using hj
theorem blk_own (B : Nat) (o : Obj) (ho : o.isCells = true) : Own (fun (_ : Unit) W => W.heap[B]? = some o) := by
  rintro s X Y row h hg hrow
  refine (hg.block B (Array.getElem?_eq_some_iff.1 h).1 (fun e' => ?_)).trans h
  obtain ⟨o', ho', hc⟩ := hrow B e'.symm
  rw [h] at ho'; cases ho'; rw [ho] at hc; cases hc
theorem rappseq (F : Fence) (n : Nat) (h67 : F.fn 267) (h7 : F.fn 196) (hro : F.round = none) (hn : 3 <= n) (Bs : Nat) (sv : Value) (L : List Reg) (hreach : L.length <= 1000000) (w : World) (hBs : Bs < w.heap.size)
    (hc : w.cell? ⟨Bs, 0, none⟩ = some sv) (hI : RgIn w.heap.size w sv L) :
    CallsIn F n prog 267 #[.slice none 0 0, .func (.func 196) #[] #[.pointer (some ⟨Bs, 0, none⟩)]] w fun e W' => ∃ v, e = .returned v /\ W'.ownsRow w.heap.size 68 10 v L.length (regC L) /\ Below w.heap.size w W' := by
  have h1 : 1 <= n := by omega
  refine callsIn_of_wp_marks Tryz.func267 rfl h67 ?_ hro
  simp only [Tryz.ntmps267, List.size_toArray, List.length_cons, List.length_nil, Nat.reduceAdd, Nat.reduceSub, Array.replicate_succ, Array.replicate_zero, List.push_toArray, List.append_toArray, List.nil_append, List.cons_append]
  gi_wp2
  have bS := Boxed.new w 59 (.slice none 0 0)
  have hB0 : Below w.heap.size w (w.alloc (.cells #[.slice none 0 0] 59)) := (Below.refl _ w).alloc (Nat.le_refl _) _
  have hsz : (w.alloc (.cells #[.slice none 0 0] 59)).heap.size = w.heap.size + 1 := by simp
  obtain ⟨W0, hW0⟩ : ∃ W0, w.alloc (.cells #[.slice none 0 0] 59) = W0 := ⟨_, rfl⟩
  rw [hW0] at bS hB0 hsz ⊢
  clear hW0
  have hc0 := (hB0.cell (p := ⟨Bs, 0, none⟩) hBs).trans hc
  obtain ⟨i0, hi, hz0, hz1, hz2⟩ := info_parts regioninfo8
  refine wpIn_rangeFunc_ownH hro h1 (gf := 196) (lb := #[.pointer (some ⟨Bs, 0, none⟩)]) rfl h7 (enters_of Tryz.func196 (by kernel_rfl) rfl)
    (rvalues_stops F (n - 1) h7 hro (by omega) Bs w.heap.size sv L hreach W0 (by omega) (by omega) hc0 (hI.below hB0)) belowK_t (belowK_b (by omega)) (Below.refl _ _) (fun _ => rfl)
    (fun pre W => (∃ v, Boxed W w.heap.size 59 v /\ W.ownsRow w.heap.size 68 10 v pre.length (regC pre) /\ True) /\ Below w.heap.size w W)
    (fun _ _ _ => False)
    (OwnFrom.and (Own.from (holdsRow_own w.heap.size w.heap.size 59 68 10 (fun pre => pre.length) (fun pre => regC pre) (fun _ _ => True)) _) (ownFrom_below (Nat.le_refl _) (by omega)))
    (fun _ _ _ _ _ hs _ _ => hs)
    ⟨⟨_, bS, World.ownsRow_nil _ _ _ _, trivial⟩, hB0⟩
    (fun x a' W => ∃ Bx, w.heap.size < Bx /\ W.heap[Bx]? = some (regO x) /\ a' = { tmps := #[.slice none 0 0, .func (.func 196) #[] #[.pointer (some ⟨Bs, 0, none⟩)], .pointer (some ⟨w.heap.size, 0, none⟩), undef, .slice none 0 0, .pointer (some ⟨Bx, 0, none⟩), .func (.func 196) #[] #[.pointer (some ⟨Bs, 0, none⟩)], regV x, undef, undef, undef, undef, undef], defers := [] })
    (fun x a' _ X Y row hs hg hr => by
      obtain ⟨Bx, h1, h2, h3⟩ := hs
      exact ⟨Bx, h1, blk_own Bx (regO x) rfl () X Y row h2 hg (fun r e => (hr r e).2), h3⟩)
    ?assign ?body ?done ?stop
  case assign =>
    rintro l pre x W K ⟨⟨v, bS1, ho1, _⟩, hB1⟩ hK
    gi_wp2
    exact hK _ _ ((KeepsOthers.alloc _ _).from _) ((Below.refl _ W).alloc hB1.size _) ⟨⟨v, bS1.alloc _, ho1.alloc _, trivial⟩, hB1.alloc hB1.size _⟩ ⟨W.heap.size, bS1.lt, World.alloc_heap_new W _, rfl⟩
  case body =>
    rintro l pre x a' W hl ⟨r, hr⟩ ⟨⟨v, bS1, ho1, _⟩, hB1⟩ ⟨Bx, hBx, bX, rfl⟩ hlt
    have cS := bS1.cell
    have q0 := qB (i := 0) bX
    have q1 := qB (i := 1) bX
    have q2 := qB (i := 2) bX
    have q3 := qB (i := 3) bX
    have q4 := qB (i := 4) bX
    have q5 := qB (i := 5) bX
    have q6 := qB (i := 6) bX
    have q7 := qB (i := 7) bX
    have q8 := qB (i := 8) bX
    have q9 := qB (i := 9) bX
    have hsW := hB1.size
    have hno := bS1.not_row (e := 68) (by decide) ho1
    gi_wp2_with (gi_at_builtin; refine wpListIn_append_own _ rfl _ _ 59 rfl w.heap.size 68 i0 (.agg #[.int .i64 0, .int .i64 0, .int .i64 0, .int .i64 0, .int .i64 0, .int .i64 0, .int .i64 0, .int .i64 0, .int .i64 0, .int .i64 0]) 10 80 Tryz.underlying59 hi hz0 hz1 hz2 rfl (by decide) _ _ _ rfl (ho1.alloc _) ⟨W.heap.size, 0, none⟩ 1 1 x.cells rfl rfl (cells_new W x.cells _) (by simp [Reg.cells, Value.oneCell']) (by unfold maxLen; omega) (by omega) (by simp; omega) ?_; intro v' w1 hown' hgrow _; obtain ⟨g', cap', rfl⟩ := ownsRow_succ hown'; obtain ⟨hv1, hv2, hr2, hk2, hb2⟩ := bS1.appended (by decide) ho1 hB1.size (Nat.le_refl _) hown' hgrow; have hc1 := hv1.cell; have hf1 := hv1.frozen)
    exact ⟨hk2.from _, hb2, ⟨_, hv2, by rw [List.length_append, regC_snoc]; exact hr2, trivial⟩, hB1.trans hb2⟩
  case done =>
    rintro D ys W hD rfl ⟨⟨v, bS1, ho1, _⟩, hB⟩ hK
    have cS := bS1.cell
    gi_wp2
    refine ⟨by simp, .inl ⟨_, _, rfl, run_takeDeferred hK, ?_⟩⟩
    exact ⟨_, results_tmp rfl _ _ _, v, rfl, ownsRow_putObj ho1 _ hK rfl, hB.trans (belowK_b (w := w) (Nat.le_refl _) W D _ _ (by omega) hK rfl rfl)⟩
  case stop =>
    rintro D c pre W _ _ h _
    exact h.elim
theorem rcollect8 (Bs : Nat) (sv : Value) (L : List Reg) (hreach : L.length <= 1000000) (w : World) (hBs : Bs < w.heap.size) (hc : w.cell? ⟨Bs, 0, none⟩ = some sv) (hI : RgIn w.heap.size w sv L) :
    Calls prog 194 #[.func (.func 196) #[] #[.pointer (some ⟨Bs, 0, none⟩)]] w fun e W' => ∃ v, e = .returned v /\ W'.ownsRow w.heap.size 68 10 v L.length (regC L) /\ Below w.heap.size w W' := by
  have AS := hid ((callsIn_wide (n := 3)).1 (rappseq Fence.wide 3 trivial trivial rfl (by omega) Bs sv L hreach w hBs hc hI))
  clear hc hI
  go_enter Tryz.func194, Tryz.ntmps194
  go_wp2_with fail
  with_reducible refine AS.out.mono ?_
  rintro e w1 ⟨v, rfl, ho, hb⟩
  have O := hid ho
  have B := hid hb
  clear ho hb
  go_wp2_with fail
  go_ret
  exact ⟨_, rfl, O.out, B.out⟩
theorem rinsert8 (a : Option Addr) (n cap : Nat) (fv : Value) (w : World) (hn : n <= 1) :
    Calls prog 315 #[.slice a n cap, .int .i64 0, .int .i64 (n : Int), fv] w fun e w' => e = .returned (.tuple #[]) /\ w' = w := by
  go_enter Tryz.func315, Tryz.ntmps315
  go_wp2_with fail
  go_loopw [8] (fun i wr => i = .int .i64 1 /\ wr = w) (fun _ _ => 0)
  case atStart => exact ⟨rfl, rfl⟩
  case round =>
    obtain ⟨rfl, rfl⟩ := hrel
    have h1 : ¬ ((1 : Int) < (n : Int)) := by omega
    go_wp2_with fail
    go_end0
    exact ⟨rfl, rfl⟩
theorem rpdq8 (a : Option Addr) (n cap : Nat) (lim fv : Value) (w : World) (hn : n <= 1) :
    Calls prog 268 #[.slice a n cap, .int .i64 0, .int .i64 (n : Int), lim, fv] w fun e w' => e = .returned (.tuple #[]) /\ w' = w := by
  have INS := hid (fun W => rinsert8 a n cap fv W hn)
  go_enter Tryz.func268, Tryz.ntmps268
  go_wp2_with fail
  go_loopw [1, 2] (fun x y wr => x = .int .i64 0 /\ y = .int .i64 (n : Int) /\ wr = w) (fun _ _ _ => 0)
  case atStart => exact ⟨rfl, rfl, rfl⟩
  case round =>
    obtain ⟨rfl, rfl, rfl⟩ := hrel
    have h1 : (n : Int) <= 12 := by omega
    go_wp2_with fail
    with_reducible refine (INS.out _).mono ?_
    rintro e w1 ⟨rfl, rfl⟩
    go_wp2_with fail
    refine bodyPost_ret (results_none rfl _ _ _) rfl ?_
    exact ⟨rfl, rfl⟩
theorem bits01 (n : Int) (w : World) (h : n = 0 \/ n = 1) : Calls prog 325 #[.int .u64 n] w fun e w' => (∃ k : Int, e = .returned (.int .i64 k)) /\ w = w' := by
  rcases h with h | h
  all_goals
    subst h
    go_enter Tryz.func325, Tryz.ntmps325
    go_wp2_with fail
    go_ret
    exact ⟨⟨_, rfl⟩, rfl⟩
theorem bitl01 (n : Int) (w : World) (h : n = 0 \/ n = 1) : Calls prog 269 #[.int .u64 n] w fun e w' => (∃ k : Int, e = .returned (.int .i64 k)) /\ w = w' := by
  go_enter Tryz.func269, Tryz.ntmps269
  go_wp2_with fail
  with_reducible refine (bits01 n _ h).mono ?_
  rintro e w1 ⟨⟨k, rfl⟩, rfl⟩
  go_wp2_with fail
  go_ret
  exact ⟨⟨k, rfl⟩, rfl⟩
theorem rsortf8 (a : Option Addr) (n cap : Nat) (fv : Value) (w : World) (hn : n <= 1) :
    Calls prog 195 #[.slice a n cap, fv] w fun e w' => e = .returned (.tuple #[]) /\ w' = w := by
  have PQ := hid (fun lim W => rpdq8 a n cap lim fv W hn)
  have BL := hid (fun W => bitl01 (n : Int) W (by omega))
  go_enter Tryz.func195, Tryz.ntmps195
  go_wp2_with fail
  with_reducible refine (BL.out _).mono ?_
  rintro e w1 ⟨⟨k, rfl⟩, rfl⟩
  go_wp2_with fail
  with_reducible refine (PQ.out _ _).mono ?_
  rintro e w2 ⟨rfl, rfl⟩
  go_wp2_with fail
  go_end0
  exact ⟨rfl, rfl⟩
theorem rsorted8 (Bs : Nat) (sv fv : Value) (L : List Reg) (hL : L.length <= 1) (w : World) (hBs : Bs < w.heap.size) (hc : w.cell? ⟨Bs, 0, none⟩ = some sv) (hI : RgIn w.heap.size w sv L) :
    Calls prog 122 #[.func (.func 196) #[] #[.pointer (some ⟨Bs, 0, none⟩)], fv] w fun e W' => ∃ v, e = .returned v /\ W'.ownsRow w.heap.size 68 10 v L.length (regC L) /\ Below w.heap.size w W' := by
  have AS := hid (rcollect8 Bs sv L (by omega) w hBs hc hI)
  have SF := hid (fun a cap W => rsortf8 a L.length cap fv W hL)
  clear hc hI
  go_enter Tryz.func122, Tryz.ntmps122
  go_wp2_with fail
  with_reducible refine AS.out.mono ?_
  rintro e w1 ⟨v, rfl, ho, hb⟩
  have O := hid ho
  have B := hid hb
  obtain ⟨a, cap, rfl⟩ : ∃ a cap, v = .slice a L.length cap := by
    rcases ho.2 with ⟨rfl, h0⟩ | ⟨g, cap, cur, rfl, _⟩
    · exact ⟨none, 0, by rw [h0]⟩
    · exact ⟨_, _, rfl⟩
  clear ho hb
  go_wp2_with fail
  with_reducible refine (SF.out _ _ _).mono ?_
  rintro e w2 ⟨rfl, rfl⟩
  go_wp2_with fail
  go_ret
  exact ⟨_, rfl, O.out, B.out⟩
theorem ridx0 (fv : Value) (w : World) :
    Calls prog 184 #[.slice none 0 0, fv] w fun e w' => e = .returned (.int .i64 (-1)) /\ w' = w := by
  go_enter Tryz.func184, Tryz.ntmps184
  go_wp2_with fail
  go_loopw [8] (fun i wr => i = .int .i64 0 /\ wr = w) (fun i _ => 0)
  case atStart => exact ⟨rfl, rfl⟩
  case round =>
    obtain ⟨rfl, rfl⟩ := hrel
    go_wp2_with fail
    go_ret
    exact ⟨rfl, rfl⟩
theorem rcon0 (fv : Value) (w : World) :
    Calls prog 125 #[.slice none 0 0, fv] w fun e w' => e = .returned (.bool false) /\ w' = w := by
  go_enter Tryz.func125, Tryz.ntmps125
  go_wp2_with fail
  with_reducible refine (ridx0 _ _).mono ?_
  rintro e x1 ⟨rfl, rfl⟩
  go_wp2_with fail
  go_ret
  exact ⟨rfl, rfl⟩
theorem rrev1 (a : Option Addr) (n cap : Nat) (w : World) (hn : n <= 1) :
    Calls prog 127 #[.slice a n cap] w fun e w' => e = .returned (.tuple #[]) /\ w' = w := by
  go_enter Tryz.func127, Tryz.ntmps127
  go_wp2_with fail
  go_loopw [2, 3] (fun i j wr => i = .int .i64 0 /\ j = .int .i64 ((n : Int) - 1) /\ wr = w) (fun _ _ _ => 0)
  case atStart => exact ⟨rfl, rfl, rfl⟩
  case round =>
    obtain ⟨rfl, rfl, rfl⟩ := hrel
    have h1 : ¬ ((0 : Int) < (n : Int) - 1) := by omega
    go_wp2_with fail
    go_end0
    exact ⟨rfl, rfl⟩
end Go.Proofs.YtbikkioipamlmaaGreatDoor
namespace Go.Proofs.YtbikkioipamlmaaGreatDoor
open Go.Maps Go.RowKit L21
theorem regC_cells {w : World} {B g n cap : Nat} {L : List Reg} (h : w.ownsRow B 68 10 (.slice (some ⟨g, 0, none⟩) n cap) n (regC L)) (hn : L.length = n) (j : Nat) (r : Reg) (hj : L[j]? = some r) : RegCells w g (0 + j * 10) r := by
  have hlt : j < L.length := (List.getElem?_eq_some_iff.1 hj).1
  have c : ∀ i, i < 10 -> w.cell? ⟨g, 0 + j * 10 + i, none⟩ = r.cells[i]? := by
    intro i hi
    rcases h.2 with ⟨h0, _⟩ | ⟨g', cap', cur, hv, hg, hb, h1, h2, h3, h4⟩
    · cases h0
    · cases hv
      rw [Nat.zero_add, qB hb, <- Array.getElem?_toList, <- regC_at L j r hj i hi, <- h4, List.getElem?_take, if_pos]
      have : (j + 1) * 10 <= n * 10 := Nat.mul_le_mul_right _ (by omega)
      omega
  exact ⟨c 0 (by omega), c 1 (by omega), c 2 (by omega), c 3 (by omega), c 4 (by omega), c 5 (by omega), c 6 (by omega), c 7 (by omega), c 8 (by omega), c 9 (by omega)⟩
theorem rgin_own {w : World} {B : Nat} {v : Value} {L : List Reg} (h : w.ownsRow B 68 10 v L.length (regC L)) : RgIn w.heap.size w v L := by
  have h9 := h
  rcases h.2 with ⟨rfl, h0⟩ | ⟨g, cap, cur, rfl, hg, hb, h1, h2, h3, h4⟩
  · exact .inl ⟨rfl, List.eq_nil_of_length_eq_zero h0⟩
  · exact .inr ⟨g, 0, cap, rfl, lB hb, fun j r hj => regC_cells h9 rfl j r hj⟩
theorem live8_0 (v : Value) (B : Nat) (L : List Reg) (tail : Int) (w : World) (hL : L = []) (hv : w.ownsRow B 68 10 v L.length (regC L)) :
    Calls prog 67 #[v, .int .i64 tail] w fun e w' => ∃ v', e = .returned v' /\ w'.ownsRow w.heap.size 68 10 v' L.length (regC L) /\ Below w.heap.size w w' := by
  have RI := rgin_own hv
  obtain ⟨a, cap, rfl⟩ : ∃ a cap, v = .slice a L.length cap := by
    rcases hv.2 with ⟨rfl, h0⟩ | ⟨g, cap, cur, rfl, _⟩
    · exact ⟨none, 0, by rw [h0]⟩
    · exact ⟨_, _, rfl⟩
  have hB0 : Below w.heap.size w (w.alloc (.cells #[.slice a L.length cap] 59)) := (Below.refl _ _).alloc (Nat.le_refl _) _
  have SR := hid (fun fv => rsorted8 w.heap.size (.slice a L.length cap) fv L (by subst hL; simp) (w.alloc (.cells #[.slice a L.length cap] 59)) (by simp) (qB (nB w _)) (by
    rcases RI.below hB0 with h | ⟨b, off, c, e, hb, hc⟩
    · exact .inl h
    · exact .inr ⟨b, off, c, e, by simp; omega, hc⟩))
  have BB := hid hB0
  have RV := hid (rvalues8 a L.length cap w)
  obtain ⟨i0, hi, hz0, hz1, hz2⟩ := info_parts regioninfo8
  have I1 := hid hi; have I2 := hid hz0; have I3 := hid hz1; have I4 := hid hz2
  clear hi hz0 hz1 hz2 RI hv hB0
  subst hL
  simp only [List.length_nil] at SR RV BB ⊢
  go_enter Tryz.func67, Tryz.ntmps67
  go_wp2_with fail
  with_reducible refine RV.out.mono ?_
  rintro e w1 ⟨rfl, rfl⟩
  go_wp2_with fail
  with_reducible refine (SR.out _).mono ?_
  rintro e w2 ⟨v2, rfl, ho2, hb2⟩
  have O2 := hid ho2
  have B2 := hid (tB BB.out hb2)
  rcases ho2.2 with ⟨rfl, h0⟩ | ⟨g, c, cur, rfl, _⟩
  all_goals
    clear ho2 hb2
    go_wp2_with fail
    go_loopw [13, 5] (fun i v wr => i = .int .i64 0 /\ v = .slice none 0 0 /\ wr = w2) (fun _ _ _ => 0)
    case atStart => exact ⟨rfl, rfl, rfl⟩
    case round =>
      obtain ⟨rfl, rfl, rfl⟩ := hrel
      go_wp2_with fail
      with_reducible refine (rrev1 none 0 0 _ (by omega)).mono ?_
      rintro e w3 ⟨rfl, rfl⟩
      go_wp2_with fail
      go_ret
      exact ⟨_, rfl, World.ownsRow_nil _ _ _ _, B2.out⟩
theorem live8_1 (v : Value) (B : Nat) (L : List Reg) (tail : Int) (w : World) (r : Reg) (hL : L = [r]) (ht : tail <= r.seq) (hv : w.ownsRow B 68 10 v L.length (regC L)) :
    Calls prog 67 #[v, .int .i64 tail] w fun e w' => ∃ v', e = .returned v' /\ w'.ownsRow w.heap.size 68 10 v' L.length (regC L) /\ Below w.heap.size w w' := by
  have RI := rgin_own hv
  obtain ⟨a, cap, rfl⟩ : ∃ a cap, v = .slice a L.length cap := by
    rcases hv.2 with ⟨rfl, h0⟩ | ⟨g, cap, cur, rfl, _⟩
    · exact ⟨none, 0, by rw [h0]⟩
    · exact ⟨_, _, rfl⟩
  have hB0 : Below w.heap.size w (w.alloc (.cells #[.slice a L.length cap] 59)) := (Below.refl _ _).alloc (Nat.le_refl _) _
  have SR := hid (fun fv => rsorted8 w.heap.size (.slice a L.length cap) fv L (by subst hL; simp) (w.alloc (.cells #[.slice a L.length cap] 59)) (by simp) (qB (nB w _)) (by
    rcases RI.below hB0 with h | ⟨b, off, c, e, hb, hc⟩
    · exact .inl h
    · exact .inr ⟨b, off, c, e, by simp; omega, hc⟩))
  have BB := hid hB0
  have RV := hid (rvalues8 a L.length cap w)
  obtain ⟨i0, hi, hz0, hz1, hz2⟩ := info_parts regioninfo8
  have I1 := hid hi; have I2 := hid hz0; have I3 := hid hz1; have I4 := hid hz2
  clear hi hz0 hz1 hz2 RI hv hB0
  subst hL
  simp only [List.length_nil, List.length_cons, Nat.zero_add] at SR RV BB ⊢
  go_enter Tryz.func67, Tryz.ntmps67
  go_wp2_with fail
  with_reducible refine RV.out.mono ?_
  rintro e w1 ⟨rfl, rfl⟩
  go_wp2_with fail
  with_reducible refine (SR.out _).mono ?_
  rintro e w2 ⟨v2, rfl, ho2, hb2⟩
  have O2 := hid ho2
  have B2 := hid (tB BB.out hb2)
  rcases ho2.2 with ⟨_, h0⟩ | ⟨g, c, cur, rfl, hgb, hgh, _⟩
  · omega
  obtain ⟨q0, q1, q2, q3, q4, q5, q6, q7, q8, q9⟩ := regC_cells ho2 rfl 0 r rfl
  have hgl := lB hgh
  simp only [Nat.zero_mul, Nat.add_zero] at q0 q1 q2 q3 q4 q5 q6 q7 q8 q9
  clear ho2 hb2 hgh
  go_wp2_with fail
  go_loopw [13, 5] (fun i v wr => (i = .int .i64 0 /\ v = .slice none 0 0 /\ wr = w2) \/ (i = .int .i64 1 /\ wr.ownsRow w.heap.size 68 10 v 1 (regC [r]) /\ Below w.heap.size w wr)) (fun i _ _ => 1 - (intOf i).toNat)
  case atStart => exact .inl ⟨rfl, rfl, rfl⟩
  case round =>
    rcases hrel with ⟨rfl, rfl, rfl⟩ | ⟨rfl, ho, hb⟩
    · go_wp2_with fail
      with_reducible refine (rcon0 _ _).mono ?_
      rintro e w3 ⟨rfl, rfl⟩
      go_wp2_with (at_builtin; refine Stop.out ?_)
      refine Stop.of (wpList_app rfl _ _ 59 rfl w.heap.size 68 i0 (.agg #[.int .i64 0, .int .i64 0, .int .i64 0, .int .i64 0, .int .i64 0, .int .i64 0, .int .i64 0, .int .i64 0, .int .i64 0, .int .i64 0]) 10 80 Tryz.underlying59 I1.out I2.out I3.out I4.out rfl (by decide) (.slice none 0 0) 0 [] rfl (World.ownsRow_nil _ _ _ _) _ 1 [.int .i64 r.ver, .int .i64 r.slot, .int .i64 r.lay, .int .i64 r.seq, .int .i64 r.tail, .int .i64 r.now, .int .i64 r.l.id, .int .i64 r.l.ver, .int .i64 r.l.rs, .int .i64 r.l.rg] rfl (src_lit #[.int .i64 r.ver, .int .i64 r.slot, .int .i64 r.lay, .int .i64 r.seq, .int .i64 r.tail, .int .i64 r.now, .int .i64 r.l.id, .int .i64 r.l.ver, .int .i64 r.l.rs, .int .i64 r.l.rg] (0, 0) (heap_two8 _ _ _) rfl) (by simp [Value.oneCell']) (by unfold maxLen; omega) (by omega) (bel_al (bel_al B2.out _) _).size ?_)
      intro v' w5 ho5 hg5
      have O5 := hid (show w5.ownsRow w.heap.size 68 10 v' 1 (regC [r]) from ho5)
      have B5 := hid (bel_grow (bel_al (bel_al B2.out _) _) (World.ownsRow_nil _ _ 68 10) hg5)
      clear ho5 hg5
      go_wp2_with fail
      go_roundw
      case rel => exact .inr ⟨by go_num, O5.out, B5.out⟩
      case measure => simp [intOf]
    · have OO := hid ho
      have BW := hid hb
      rcases ho.2 with ⟨_, h0⟩ | ⟨g', c', cur, rfl, _⟩
      · omega
      clear ho hb
      go_wp2_with fail
      with_reducible refine (rrev1 _ 1 _ _ (by omega)).mono ?_
      rintro e w3 ⟨rfl, rfl⟩
      go_wp2_with fail
      go_ret
      exact ⟨_, rfl, OO.out, BW.out⟩
theorem live8 (v : Value) (B : Nat) (L : List Reg) (tail : Int) (w : World) (hL : L.length <= 1) (hv : w.ownsRow B 68 10 v L.length (regC L)) (ht : ∀ r ∈ L, tail <= r.seq) :
    Calls prog 67 #[v, .int .i64 tail] w fun e w' => ∃ v', e = .returned v' /\ w'.ownsRow w.heap.size 68 10 v' L.length (regC L) /\ Below w.heap.size w w' := by
  match L, hL with
  | [], _ => exact live8_0 v B [] tail w rfl hv
  | [r], _ => exact live8_1 v B [r] tail w r rfl (ht r (by simp)) hv
  | _ :: _ :: _, h => simp at h
end Go.Proofs.YtbikkioipamlmaaGreatDoor
