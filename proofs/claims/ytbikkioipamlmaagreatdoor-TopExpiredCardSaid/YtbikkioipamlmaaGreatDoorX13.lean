/-
  Laws and contracts for the statement TopExpired.
-/
import Derived.Deep.WholeRow
import Derived.Deep.MidRow
import Derived.Laws.CopyRow
import Derived.Laws.Cover3
import Derived.StillTailTactics
import Derived.Test.YtbikkioipamlmaaGreatDoorX04
import Derived.Test.YtbikkioipamlmaaGreatDoorX08
open Go.Lib (hid)
open Go.Proofs.Tryz (prog)
set_option linter.unusedVariables false
set_option linter.unusedSimpArgs false
set_option maxRecDepth 100000
set_option maxHeartbeats 20000000
namespace Go.Proofs.YtbikkioipamlmaaGreatDoor
open Go.Maps Go.RowKit
theorem secinfo : (prog.info? 271).map (·.size) = some 64 := by kernel_rfl
def Z64 : Array Value := Array.replicate 64 (.int .u8 0)
theorem zeroSec (w : World) : (zeroValue 271).run prog w = .ok (.agg Z64) w := by kernel_rfl
theorem secR_zero : secR (.agg Z64) = some (.lit (.string (List.replicate 64 0)), []) := by
  have h : Z64.size = 64 /\ Z64.all (·.oneCell') = true := by decide +kernel
  show (if Z64.size = 64 /\ Z64.all (·.oneCell') = true then _ else _) = _
  rw [if_pos h]
  rfl
theorem wf64 {i : Int} (h0 : 0 <= i) (h1 : i <= 9223372036854775807) : (Lit.int .i64 i).wf = true := by
  simp [Lit.wf, IntKind.min, IntKind.max, IntKind.bits, IntKind.signed]
  omega
theorem still_load {P : Program} {ops : Array Oper} {w : World} {Q : Act -> Prop} {rest : List Oper} {o : Oper} {a : Act} (hgd : o.guard = none) (ty : TypeId) (x : Operand) (ho : o.op = .load ty x) (ad : Addr) (hx : a.eval x = .pointer (some ad)) (v : Value)
    (hl : (loadVar ty ad).run P w = .ok v w) (h : wpStill P ops w Q rest (a.put o.dst v)) : wpStill P ops w Q (o :: rest) a := by
  refine wpStill_step (fun K hK => ?_)
  have hw : Region.wanted o (yielded ops a.tmps) = true := by simp [Region.wanted, hgd]
  rw [if_pos hw]
  unfold Oper.still execOp
  simp only [ho, hx, Instr.loadAt, Instr.sureAddr, Sem.run_bind, Sem.run_pure, Result.andThen_ok, hl, Oper.stillUpon]
  exact ⟨trivial, hK _ h⟩
theorem secR_u8 {s : List Int} (h : s.length = 64) : ∃ d, secR (.agg (u8s s).toArray) = some (d, []) := by
  have h1 : (u8s s).toArray.size = 64 /\ (u8s s).toArray.all (·.oneCell') = true := by
    refine ⟨by simp [u8s, h], ?_⟩
    rw [List.all_toArray, List.all_eq_true]
    exact fun x hx => ints_one .u8 s x hx
  refine ⟨.lit (.string ((u8s s).toArray.toList.map fun v => UInt8.ofNat (intOf v).toNat)), ?_⟩
  simp only [secR]
  exact if_pos h1
theorem blk_sets {b : Nat} {t : TypeId} (vs : List Value) : ∀ (o : Nat) (w : World) (cs : Array Value), w.heap[b]? = some (.cells cs t (0, 0)) -> o + vs.length <= cs.size ->
    ∃ cs', (w.setCells b o vs).heap[b]? = some (.cells cs' t (0, 0)) /\ cs'.toList = cs.toList.take o ++ (vs ++ cs.toList.drop (o + vs.length)) := by
  induction vs with
  | nil => intro o w cs h _; exact ⟨cs, h, by simp⟩
  | cons v r ih =>
    intro o w cs h hl
    simp only [List.length_cons] at hl
    obtain ⟨cs', h1, h2⟩ := ih (o + 1) (w.setCell ⟨b, o, none⟩ v) (cs.setIfInBounds o v) (uB h v) (by simp; omega)
    refine ⟨cs', h1, ?_⟩
    rw [h2, Array.toList_setIfInBounds, List.take_set, List.drop_set_of_lt (by omega), List.length_cons, show o + 1 + r.length = o + (r.length + 1) by omega]
    have hlo : o < cs.toList.length := by rw [Array.length_toList]; omega
    rw [List.take_add_one, List.getElem?_eq_getElem hlo, List.set_append_right _ _ (by simp; omega)]
    have e : o - (List.take o cs.toList).length = 0 := by simp; omega
    rw [e]
    simp
theorem fr_sets {b : Nat} (vs : List Value) : ∀ (o : Nat) (w : World), Fr (fun j => j = b) w (w.setCells b o vs) := by
  induction vs with
  | nil => intro o w; exact Fr.refl _ _
  | cons v r ih => intro o w; exact (fS w b o v).trans (ih (o + 1) _) (fun j hj => .inl hj)
theorem img_write {C : List Value} {F b : List Int} {L o m : Nat} (hC : C.take L = u8s F) (hF : F.length = L) (ho : o + 64 <= L) (hb : b.length = m) (hm : m <= 64) :
    ((C.take o ++ (List.replicate 64 (Value.int .u8 0) ++ C.drop (o + 64))).take o ++ (u8s b ++ (C.take o ++ (List.replicate 64 (Value.int .u8 0) ++ C.drop (o + 64))).drop (o + m))).take L = u8s (F.take o ++ (pad64 b ++ F.drop (o + 64))) := by
  have hlen : L <= C.length := by
    have := congrArg List.length hC
    simp [u8s] at this
    omega
  have h1 : (C.take o).length = o := by rw [List.length_take]; omega
  have h2 : C.take o = u8s (F.take o) := by
    rw [show C.take o = (C.take L).take o by rw [List.take_take]; congr 1; omega, hC, u8s, u8s, List.map_take]
  have h3 : (C.drop (o + 64)).take (L - (o + 64)) = u8s (F.drop (o + 64)) := by
    rw [<- List.drop_take, hC, u8s, u8s, List.map_drop]
  have t1 : ∀ X : List Value, (C.take o ++ X).take o = C.take o := fun X => by rw [List.take_append_of_le_length (by omega), List.take_of_length_le (by omega)]
  have t2 : ∀ X : List Value, (C.take o ++ X).drop (o + m) = X.drop m := fun X => by
    have h5 : (C.take o ++ X).drop o = X := by rw [List.drop_append_of_le_length (by omega), List.drop_of_length_le (by omega), List.nil_append]
    rw [<- List.drop_drop, h5]
  rw [t1, t2, List.drop_append_of_le_length (by simp; omega), List.drop_replicate]
  rw [<- List.append_assoc, <- List.append_assoc, List.take_append, List.take_of_length_le (by simp [u8s]; omega)]
  have e : L - (List.take o C ++ u8s b ++ List.replicate (64 - m) (Value.int .u8 0)).length = L - (o + 64) := by simp [u8s]; omega
  rw [e, h3, h2]
  simp [u8s, pad64, hb]
theorem copy_ex {w : World} {g o cap m c : Nat} {a : Option Addr} {b : List Int} {cur : Array Value} (hg : w.heap[g]? = some (.cells cur 5 (0, 0))) (hr : Rd8 w a m c b) (hm : m <= 64) (ho : o + 64 <= cur.size) :
    ∃ v w' cs, (∀ ty, (Builtin.copy_ #[33, 33] ty #[.slice (some ⟨g, o, none⟩) 64 cap, .slice a m c]).run prog w = .ok v w') /\ w'.heap[g]? = some (.cells cs 5 (0, 0)) /\
      cs.toList = cur.toList.take o ++ (u8s b ++ cur.toList.drop (o + m)) /\ Fr (fun j => j = g) w w' := by
  have hs : (prog.info? 5).map (·.size) = some 1 := by kernel_rfl
  have hl := hr.len
  rcases Nat.eq_zero_or_pos m with rfl | h0
  · obtain rfl : b = [] := List.eq_nil_of_length_eq_zero hl
    exact ⟨_, w, cur, fun ty => run_copy_none (P := prog) w _ _ ty 5 _ a _ _ _ _ Tryz.underlying33 hs (by simp), hg, by simp [u8s], Fr.refl _ _⟩
  · obtain ⟨g', off, rfl, _, _⟩ := hr.el 0 h0
    have hcl : (u8s b).length = m := by simp [u8s, hl]
    refine ⟨_, _, (cur.toList.take o ++ u8s b ++ cur.toList.drop (o + m)).toArray, fun ty => (run_copy_row (P := prog) w _ _ ty 5 g o 64 cap ⟨g', off, none⟩ m c cur 5 (u8s b) Tryz.underlying33 hs hg (by rw [hcl]; exact (Nat.min_eq_left hm).symm) (fun j v hv => ?_) (by rw [hcl]; omega) (ints_one .u8 b)).trans (by rw [hcl]), setRow_heap _ _ _ _ _ _ hg, by simp, ⟨rfl, rfl, rfl, by simp, fun k hk hne => setRow_other _ _ _ _ hne⟩⟩
    have hj : j < m := by
      have := (List.getElem?_eq_some_iff.1 hv).1
      omega
    obtain ⟨g2, o2, e, _, hc⟩ := hr.el j hj
    cases e
    rw [Go.WideShapes.add_plain, hc]
    rw [u8s, List.getElem?_map] at hv
    obtain ⟨z, hz, rfl⟩ := Option.map_eq_some_iff.1 hv
    rw [hz]; rfl
theorem writeD (dp ib mb cap n : Nat) (D : DataW Nat) (S : List (List Int)) (wr i : Nat) (a : Option Addr) (m c : Nat) (b : List Int) (w : World) (h : Dev w dp ib mb cap n D S wr) (hi : i < S.length) (hr : Rd8 w a m c b) (hm : m <= 64) (hwr : wr + 1 <= 1000000) (hne : ∀ ad, a = some ad -> ¬ devF dp ib mb ad.block) :
    Calls prog 172 #[.pointer (some ⟨dp, 0, none⟩), .int .i64 (i : Int), .slice a m c] w fun e w' => e = .returned (.int .i64 0) /\ ∃ n' D', Dev w' dp ib mb cap n' D' (S.set i (pad64 b)) (wr + 1) /\ Fr (devF dp ib mb) w w' := by
  have H := hid h
  have HR := hid hr
  obtain ⟨c0, c1, c2, c3, c4⟩ := h.cells
  have h0 : (0 : Int) <= (i : Int) := by omega
  have h1 : (i : Int) < (S.length : Int) := by omega
  have hm' : (m : Int) <= 64 := by omega
  have HN := hid hne
  clear h hr hne
  go_enter Tryz.func172, Tryz.ntmps172
  go_wp2_with fail
  with_reducible refine (checkD dp ib mb cap n D S wr i _ H.out h0 h1).mono ?_
  rintro e w1 ⟨rfl, rfl⟩
  go_wp2_with fail
  with_reducible refine (burnD dp ib mb cap n D S wr _ H.out).mono ?_
  rintro e w1 ⟨rfl, rfl⟩
  go_wp2_with fail
  with_reducible refine (atD dp ib mb cap n D S wr i _ H.out hi).mono ?_
  rintro e w1 ⟨rfl, rfl⟩
  have KI := hid (keyId (o := (i : Int)) (wf64 h0 (by have := H.out.len; omega)))
  have ZS := hid zeroSec
  go_wp2_with (at_lookup; refine Stop.out ?_)
  refine Stop.of (wpList_lookup_own_ok _ rfl _ _ 186 rfl 3 271 intKd mapD secR (ZS.out _) _ [] secR_zero mb n D rfl H.out.old _ _ rfl KI.out ?_)
  intro v ps hv
  obtain ⟨cs, rfl, hcs, hone, _⟩ := secR_inv hv
  have ST : ∀ (W : World) (c : Array Value), c.size = 64 -> (storeCells ⟨W.heap.size, 0, none⟩ cs.toList 0).run prog (W.alloc (.cells c 271)) = .ok () (W.alloc (.cells cs 271)) := fun W c hc => run_storeCells_new (P := prog) W _ c cs (by rw [hcs]; exact secinfo) (by omega) hone
  clear hv
  obtain ⟨hb, hbe⟩ : ∃ hb, Maps.has D (.int .i64 (i : Int)) = hb := ⟨_, rfl⟩
  rw [hbe]
  clear hbe
  obtain ⟨s, hs⟩ : ∃ s, S[i]? = some s := ⟨_, List.getElem?_eq_getElem hi⟩
  have RS := hid (H.out.sec i s hs)
  have HS := hid hs
  have AA : ∀ W : World, (Instr.arrayAt 271 (.slice (some ⟨ib, 64 * i, none⟩) 64 (cap - 64 * i))).run prog W = .ok (.pointer (some ⟨ib, 64 * i, none⟩)) W := fun W => run_arrayAt (P := prog) (w := W) 271 5 64 _ 64 _ Tryz.underlying271 (Nat.le_refl _)
  have hibl : ib < w.heap.size := H.out.lt ib (.inr (.inl rfl))
  have hdpl : dp < w.heap.size := H.out.lt dp (.inl rfl)
  have LV0 := hid (show ∀ W : World, Below w.heap.size w W -> (loadVar 271 ⟨ib, 64 * i, none⟩).run prog W = .ok (.agg (u8s s).toArray) W from fun W hW => by
    refine run_loadVar_mid (P := prog) W ib (64 * i) 271 (u8s s) _ (fun j v hv => ?_) Tryz.underlying271 rfl (by rw [secinfo]; simp [u8s]; exact RS.out.len.symm)
    have hj : j < 64 := by
      have := (List.getElem?_eq_some_iff.1 hv).1
      simp [u8s] at this
      have := RS.out.len; omega
    obtain ⟨g, off, e, _, hc⟩ := (RS.out.below hW (Nat.le_refl _)).el j hj
    cases e
    rw [hc]
    rw [u8s, List.getElem?_map] at hv
    obtain ⟨z, hz, rfl⟩ := Option.map_eq_some_iff.1 hv
    rw [hz]; rfl)
  have KC := hid (show ∀ W : World, Below w.heap.size w W -> W.cell? ⟨dp, 1, none⟩ = some (.map (some mb)) from fun W hW => ((bcell hW).1 _ _ hdpl).trans c1)
  obtain ⟨dd, hdd⟩ := secR_u8 RS.out.len
  have HDD := hid hdd
  have HNL := hid (show n < maxLen by have := H.out.wrb; unfold maxLen; omega)
  clear hdd
  go_upto_if 38 with fail
  go_cut [] (fun wx => ∃ n' D', OMd wx mb n' D' /\ n' <= wr + 1 /\ Fr (fun j => j = mb) w wx)
  case first =>
    cases hb
    · obtain ⟨w1, hw1⟩ : ∃ w1, w.alloc (.cells cs 271) = w1 := ⟨_, rfl⟩
      have hB1 : Below w.heap.size w w1 := by rw [<- hw1]; exact (Below.refl _ _).alloc (Nat.le_refl _) _
      have hO1 : OMd w1 mb n D := by rw [<- hw1]; exact H.out.old.alloc _
      rw [hw1]
      have LV := hid (LV0.out w1.drew hB1.drew)
      have K1 := KC.out _ hB1
      have K2 : ({ heap := w1.heap, tape := w1.tape, drawn := w1.drawn + 1, os := w1.os, output := w1.output } : World).cell? ⟨dp, 1, none⟩ = some (.map (some mb)) := K1
      go_wp2_with fail
      go_still_tail 8, (by kernel_rfl)
      refine still_load rfl _ _ rfl ⟨ib, 64 * i, none⟩ rfl (.agg (u8s s).toArray) LV.out ?_
      (try refine wpStill_nil ?_)
      refine wpList_mapUpdate_own _ rfl _ _ _ 186 rfl 3 271 intKd mapD secR mb n D rfl (show OMd w1.drew mb n D from hO1) HNL.out _ _ (.int .i64 (i : Int)) rfl rfl KI.out dd [] HDD.out ?_
      intro w2 hown2 hgrow2
      go_wp2_with fail
      go_meet
      exact ⟨n + 1, _, hown2, by have := H.out.wrb; omega, (Fr.of_below hB1.drew).trans (Fr.of_grown (w := w1.drew) (w' := w2) hgrow2 (by rintro j e; cases e; exact rfl)) (fun j hj => .inl hj)⟩
    · go_wp2_with fail
      go_meet
      exact ⟨n, D, H.out.old.alloc _, by have := H.out.wrb; omega, .of_below ((Below.refl _ _).alloc (Nat.le_refl _) _)⟩
  case rest =>
    obtain ⟨n', D', ho', hn', hf'⟩ := hcut
    rename_i wc _
    have HO' := hid ho'
    have HF' := hid hf'
    have HN' := hid hn'
    obtain ⟨cimg, g1, g2, g3⟩ := H.out.img
    have hne := H.out.ne
    have G1 := hid (show wc.heap[ib]? = some (.cells cimg 5 (0, 0)) from (hf'.block ib hibl (fun e => hne.2.2 e)).trans g1)
    have BD := hid (show wc.heap[dp]? = some (.cells #[.slice (some ⟨ib, 0, none⟩) (64 * S.length) cap, .map (some mb), .int .i64 (wr : Int), .int .i64 (-1), .bool false] 188 (0, 0)) from (hf'.block dp hdpl (fun e => hne.2.1 e)).trans H.out.blk)
    have hcap := H.out.capb
    have h64 : 64 * i + 64 <= cimg.size := by rw [g2]; omega
    have HCL : ∀ ty, (Builtin.clear_ #[33] ty #[.slice (some ⟨ib, 64 * i, none⟩) 64 (cap - 64 * i)]).run prog wc = .ok (.tuple #[]) (wc.setCells ib (64 * i) (List.replicate 64 (.int .u8 0))) := fun ty =>
      Lib.run_clear_slice (P := prog) wc 33 5 ty (.int .u8 0) Tryz.underlying33 (fun w => by kernel_rfl) rfl rfl ib (64 * i) 64 _ (by omega)
        (fun j hj => by rw [qB G1.out, Array.getElem?_eq_getElem (by omega)]; rfl) (fun j hj => zB G1.out)
    obtain ⟨cm1, s1, s2⟩ := blk_sets (List.replicate 64 (.int .u8 0)) (64 * i) wc cimg G1.out (by simp; exact h64)
    obtain ⟨W3, hW3⟩ : ∃ W3, wc.setCells ib (64 * i) (List.replicate 64 (.int .u8 0)) = W3 := ⟨_, rfl⟩
    rw [hW3] at HCL s1
    have F3 := hid (show Fr (fun j => j = ib) wc W3 by rw [<- hW3]; exact fr_sets _ _ _)
    have S1 := hid s1
    have S2 := hid s2
    have G3 := hid g3
    have G2 := hid g2
    clear ho' hf' hn' g1 hW3 s1 s2 g3 g2 c0 c1 c2 c3 c4 LV0 AA ST
    have FD3 := hid (show Fr (devF dp ib mb) w W3 from (HF'.out.mono (fun j _ hj => .inr (.inr hj))).trans F3.out (fun j hj => .inl (.inr (.inl hj))))
    have hc1s : cm1.size = cimg.size := by
      have := congrArg List.length S2.out
      simp at this
      omega
    obtain ⟨vc, W4, cm2, hcp, s4, s5, f4⟩ := copy_ex (cap := cap - 64 * i) (o := 64 * i) S1.out (HR.out.fr FD3.out HN.out) hm (by omega)
    have FD4 := hid (show Fr (devF dp ib mb) w W4 from FD3.out.trans f4 (fun j hj => .inl (.inr (.inl hj))))
    have D4 := hid (show W4.heap[dp]? = some (.cells #[.slice (some ⟨ib, 0, none⟩) (64 * S.length) cap, .map (some mb), .int .i64 (wr : Int), .int .i64 (-1), .bool false] 188 (0, 0)) from (f4.block dp (Nat.lt_of_lt_of_le hdpl FD3.out.size) (fun e => hne.1 e)).trans ((F3.out.block dp (Nat.lt_of_lt_of_le hdpl HF'.out.size) (fun e => hne.1 e)).trans BD.out))
    have OM4 := hid (show OMd W4 mb n' D' by
      have hmbl := HO'.out.lt
      obtain ⟨es, clock, hb, F, hs, hD⟩ := HO'.out
      exact ⟨es, clock, (f4.block mb (Nat.lt_of_lt_of_le hmbl F3.out.size) (fun e => hne.2.2 e.symm)).trans ((F3.out.block mb hmbl (fun e => hne.2.2 e.symm)).trans hb), F, hs, hD⟩)
    have S4 := hid s4
    have S5 := hid s5
    have k2 := qB (i := 2) D4.out
    have kf := zB (i := 2) D4.out
    simp only [List.getElem?_toArray, List.getElem?_cons_zero, List.getElem?_cons_succ] at k2
    clear s4 s5 f4
    go_wp2_with fail
    go_ret
    have hpl : (pad64 b).length = 64 := pad64_length (by rw [HR.out.len]; exact hm)
    have FE := hid (fS W4 dp 2 (.int .i64 ((wr : Int) + 1)))
    have hc2s : cm2.size = cimg.size := by
      have h7 := congrArg List.length S5.out
      have := HR.out.len
      simp [u8s] at h7
      omega
    refine ⟨rfl, ⟨n', D', ⟨?_, ⟨cm2, ?_, ?_, ?_⟩, ?_, ?_, H.out.ok.set i hpl (pad64_byte HR.out.byt), ?_, hne, ⟨HN'.out, hwr⟩⟩⟩, FD4.out.trans FE.out (fun j hj => .inl (.inl hj))⟩
    · rw [uB D4.out, List.length_set]; rfl
    · rw [FE.out.block ib (Nat.lt_of_lt_of_le hibl FD4.out.size) (fun e => hne.1 e.symm)]; exact S4.out
    · rw [hc2s]; exact G2.out
    · rw [S5.out, S2.out, List.length_set, List.length_replicate]
      have hfl := flat64_length H.out.ok
      rw [img_write (F := S.flatten) G3.out hfl (by omega) HR.out.len hm, flat64_set H.out.ok i _ hi hpl]
    · rw [List.length_set]; exact hcap
    · obtain ⟨es, clock, hb, F, hs, hD⟩ := OM4.out
      exact ⟨es, clock, (FE.out.block mb (lB hb) (fun e => hne.2.1 e.symm)).trans hb, F, hs, hD⟩
    · rw [List.length_set]; exact H.out.len
theorem run_clear_map {P : Program} {w : World} {mty kt et ty : TypeId} {b clock : Nat} {es : Array MapEntry} (hm : P.underlying mty = some (.map kt et)) (hb : w.heap[b]? = some (.map es clock)) :
    (Builtin.clear_ #[mty] ty #[.map (some b)]).run P w = .ok (.tuple #[]) { w with heap := w.heap.setIfInBounds b (.map #[] clock) } := by
  have h1 : (getObj b).run P w = .ok (.map es clock) w := by simp [getObj, Sem.run, hb]
  have h2 : (setObj b (.map #[] clock)).run P w = .ok () { w with heap := w.heap.setIfInBounds b (.map #[] clock) } := by simp [setObj, Sem.run, hb]
  simp [Builtin.clear_, run_underlying hm, h1, h2, Result.andThen]
theorem barrierD (dp ib mb cap n : Nat) (D : DataW Nat) (S : List (List Int)) (wr : Nat) (w : World) (h : Dev w dp ib mb cap n D S wr) :
    Calls prog 116 #[.pointer (some ⟨dp, 0, none⟩)] w fun e w' => e = .returned (.int .i64 0) /\ Dev w' dp ib mb cap n (.map []) S wr /\ Fr (devF dp ib mb) w w' := by
  have H := hid h
  obtain ⟨c0, c1, c2, c3, c4⟩ := h.cells
  obtain ⟨es, clock, hb, F, hs, hD⟩ := h.old
  have CL := fun ty => run_clear_map (P := prog) (ty := ty) mapD hb
  have hbl := lB hb
  obtain ⟨w1, hw1⟩ : ∃ w1, ({ w with heap := w.heap.setIfInBounds mb (.map #[] clock) } : World) = w1 := ⟨_, rfl⟩
  rw [hw1] at CL
  have FR := hid (show Fr (fun j => j = mb) w w1 by
    rw [<- hw1]
    exact ⟨rfl, rfl, rfl, by simp, fun k hk hne => by
      show (w.heap.setIfInBounds mb (.map #[] clock))[k]? = w.heap[k]?
      rw [Array.getElem?_setIfInBounds, if_neg (fun e => hne e.symm)]⟩)
  have HB := hid (show w1.heap[mb]? = some (.map #[] clock) by
    rw [<- hw1]
    show (w.heap.setIfInBounds mb (.map #[] clock))[mb]? = _
    rw [Array.getElem?_setIfInBounds, if_pos rfl, if_pos hbl])
  have HFit := hid F
  clear h hw1 F hb hs hD
  go_enter Tryz.func116, Tryz.ntmps116
  go_wp2_with fail
  with_reducible refine (burnD dp ib mb cap n D S wr _ H.out).mono ?_
  rintro e w2 ⟨rfl, rfl⟩
  go_wp2_with fail
  go_ret
  have hne := H.out.ne
  obtain ⟨ci, g1, g2, g3⟩ := H.out.img
  refine ⟨rfl, ⟨?_, ⟨ci, ?_, g2, g3⟩, H.out.capb, ⟨#[], clock, HB.out, ?_, Nat.zero_le _, rfl⟩, H.out.ok, H.out.len, hne, H.out.wrb⟩, FR.out.mono (fun j _ hj => .inr (.inr hj))⟩
  · rw [FR.out.block dp (lB H.out.blk) (fun e => hne.2.1 e)]; exact H.out.blk
  · rw [FR.out.block ib (lB g1) (fun e => hne.2.2 e)]; exact g1
  · exact ⟨by simp, MapKept.stamped_empty clock, by simp⟩
def NewD (w w' : World) (S : List (List Int)) (e : Ending) : Prop :=
  ∃ dp ib mb cap, e = .returned (.pointer (some ⟨dp, 0, none⟩)) /\ Dev w' dp ib mb cap 0 (.map []) S 0 /\ (∀ j, devF dp ib mb j -> w.heap.size <= j) /\ Below w.heap.size w w'
theorem loadD (a : Option Addr) (n cap : Nat) (S : List (List Int)) (w : World) (hr : Rd8 w a n cap S.flatten) (hn : n = 64 * S.length) (hS : SecOk S) (h1 : 1 <= S.length) (h2 : S.length <= 1048576) :
    Calls prog 95 #[.slice a n cap] w fun e w' => NewD w w' S e := by
  have HR := hid hr
  have hq1 : (n : Int).tdiv 64 = (S.length : Int) := by rw [Int.tdiv_eq_ediv_of_nonneg (by omega)]; omega
  have hq2 : (n : Int).tmod 64 = 0 := by rw [Int.tmod_eq_emod_of_nonneg (by omega)]; omega
  have hn2 : n <= 67108864 := by omega
  have HN := hid hn
  clear hr hn
  go_enter Tryz.func95, Tryz.ntmps95
  go_wp2_with fail
  with_reducible refine (clone8 a n cap _ _ HR.out (by omega)).mono ?_
  rintro e w1 ⟨v, rfl, ho, hb⟩
  have hfl : S.flatten.length = n := HR.out.len
  obtain ⟨hol, hoo⟩ := ho.own
  rcases hoo with ⟨_, h0⟩ | ⟨g, c, cur, rfl, hg, hgg, hc1, hc2, hc3, hc4⟩
  · exfalso
    have := HN.out
    omega
  rw [hfl] at hc1 hc4 ⊢
  rw [Nat.mul_one] at hc3 hc4
  have HG := hid hgg
  have HC4 := hid hc4
  have B1 := hid hb
  have hgl := lB hgg
  have hsz := hb.size
  clear ho hol hgg hc4 hb
  have hmk := fun W => run_makeMap (P := prog) 186 W
  go_wp2_with fail
  go_ret
  have hmap : OMd (w1.alloc (.map #[] 0)) w1.heap.size 0 (.map []) := World.ownsMap_made w1 prog _ _
  have hgm : ∀ o o' : Obj, ((w1.alloc o).alloc o').heap[g]? = some (.cells cur 5 (0, 0)) := fun o o' => old_at (old_at HG.out o) o'
  have hS64 := HN.out
  refine ⟨w1.heap.size + 1, g, w1.heap.size, c, rfl, ⟨?_, ⟨cur, hgm _ _, hc3, ?_⟩, ⟨by omega, hc2⟩, hmap.alloc _, hS, ⟨h1, h2⟩, ⟨by omega, by omega, by omega⟩, ⟨Nat.le_refl _, by omega⟩⟩, ?_, ?_⟩
  · have h9 := nB (w1.alloc (.map #[] 0)) (.cells #[.slice (some ⟨g, 0, none⟩) n c, .map (some w1.heap.size), .int .i64 0, .int .i64 (-1), .bool false] 188)
    rw [heap_alloc_size] at h9
    rw [h9, <- hS64]; rfl
  · rw [<- hS64]; exact HC4.out
  · rintro j (rfl | rfl | rfl) <;> omega
  · exact (B1.out.alloc B1.out.size _).alloc (by simp; omega) _
theorem newD (n : Nat) (w : World) (h1 : 1 <= n) (h2 : n <= 1048576) :
    Calls prog 34 #[.int .i64 (n : Int)] w fun e w' => NewD w w' (List.replicate n (List.replicate 64 0)) e := by
  have hn1 : (1 : Int) <= (n : Int) := by omega
  have hn2 : (n : Int) <= 1048576 := by omega
  obtain ⟨cs, k1, k2, k3⟩ := make8 (64 * n) ((n : Int) * 64) (by omega) (by omega)
  have K1 := hid k1
  clear k1
  go_enter Tryz.func34, Tryz.ntmps34
  go_wp2_with fail
  have hfl : (List.replicate n (List.replicate 64 (0 : Int))).flatten = List.replicate (64 * n) 0 := by
    rw [List.flatten_replicate_replicate, Nat.mul_comm]
  have hrd : Rd8 (w.alloc (.cells cs 5)) (some ⟨w.heap.size, 0, none⟩) (64 * n) (64 * n) (List.replicate n (List.replicate 64 (0 : Int))).flatten := by
    rw [hfl]
    exact rd_lit (nB w _) K1.out (by simp) (Nat.le_refl _) (by unfold maxLen; omega) (.zeros _)
  with_reducible refine (loadD _ (64 * n) (64 * n) (List.replicate n (List.replicate 64 0)) _ hrd (by simp) ⟨?_, ?_⟩ (by simp; exact h1) (by simp; exact h2)).mono ?_
  · intro s hs; rw [(List.mem_replicate.1 hs).2]; simp
  · intro s hs; rw [(List.mem_replicate.1 hs).2]; exact .zeros _
  rintro e w2 ⟨dp, ib, mb, cap, rfl, hd, hf, hb⟩
  go_wp2_with fail
  go_ret
  exact ⟨dp, ib, mb, cap, rfl, hd, fun j hj => by have := hf j hj; simp at this; omega, bel1 hb⟩
theorem place8 (g : Int) (w : World) (h : 1 <= g) : Calls prog 87 #[.int .i64 g] w fun e w' => e = .returned (.int .i64 (g % 2)) /\ w = w' := by
  have hq : g.tmod 2 = g % 2 := Int.tmod_eq_emod_of_nonneg (by omega)
  have h0 : 0 <= g % 2 := by omega
  go_enter Tryz.func87, Tryz.ntmps87
  go_wp2_with fail
  go_ret
  exact ⟨rfl, rfl⟩
theorem publish8 (T : Nat -> Int) (dp ib mb cap n : Nat) (D : DataW Nat) (S : List (List Int)) (wr : Nat) (s : Sup) (w : World) (hd : Dev w dp ib mb cap n D S wr) (h : Stab s) (hv : supB s = true) (hT : CrcT T w) (h2 : 2 <= S.length) (hwr : wr + 1 <= 1000000) (h0 : ∀ j, devF dp ib mb j -> 0 < j) :
    Calls prog 173 #[.pointer (some ⟨dp, 0, none⟩), .agg ⟨Sup.vals s (.slice none 0 0)⟩] w fun e w' => e = .returned (.int .i64 0) /\ ∃ n', Dev w' dp ib mb cap n' (.map []) (S.set (s.gen % 2).toNat (supE (crcF T) (s.gen % 2) s)) (wr + 1) /\ Fr (devF dp ib mb) w w' := by
  have g1 := (supB_parts hv).1.1
  obtain ⟨pi, hpi⟩ : ∃ pi : Nat, s.gen % 2 = (pi : Int) := ⟨(s.gen % 2).toNat, by omega⟩
  have hpi2 : pi < 2 := by omega
  have SV := hid (fun W => svalid8 s W h hv)
  have PL := hid (fun W => place8 s.gen W g1)
  rw [hpi] at PL
  have SE := hid (fun (W : World) (hW : CrcT T W) => senc8 T s (s.gen % 2) W h hv hW (by omega) (by omega))
  have hl := frameE_length (crcF T) 3 0 (s.gen % 2) (supP s) (by have := supP_length s; omega)
  obtain ⟨E, hE⟩ : ∃ E, supE (crcF T) (s.gen % 2) s = E := ⟨_, rfl⟩
  have hlE : E.length = 64 := by rw [<- hE]; exact hl
  have HE := hid hE
  have HT := hid hT
  have HD := hid hd
  rw [hE] at SE ⊢
  rw [hpi] at SE ⊢
  rw [Int.toNat_natCast]
  obtain ⟨g, p, m, t, nw, l, hm, fr⟩ := s
  obtain ⟨a, b, c, d⟩ := l
  obtain ⟨a2, b2, c2, d2⟩ := hm
  simp only [Sup.vals] at *
  clear hv hT hd hl hE hpi
  go_enter Tryz.func173, Tryz.ntmps173
  go_wp2_with fail
  with_reducible refine (SV.out _).mono ?_
  rintro e w1 ⟨rfl, hb⟩
  have hk : ∀ j, w1.cell? ⟨w.heap.size, j, none⟩ = _ := fun j => ((bcell hb).1 w.heap.size j (by simp)).trans (qB (nB w _))
  have B1 := hid (bel1 hb)
  have hws : w.heap.size < w1.heap.size := by have := hb.size; simp at this; omega
  have k0 := hk 0; have k1 := hk 1; have k2 := hk 2; have k3 := hk 3; have k4 := hk 4; have k5 := hk 5; have k6 := hk 6; have k7 := hk 7; have k8 := hk 8; have k9 := hk 9; have k10 := hk 10; have k11 := hk 11; have k12 := hk 12; have k13 := hk 13
  simp only [List.getElem?_toArray, List.getElem?_cons_zero, List.getElem?_cons_succ] at k0 k1 k2 k3 k4 k5 k6 k7 k8 k9 k10 k11 k12 k13
  clear hb hk
  go_wp2_with fail
  have KB := hid (show ∀ W, Below w1.heap.size w1 W -> W.cell? ⟨w.heap.size, 0, none⟩ = some (.int .i64 g) /\ W.cell? ⟨w.heap.size, 1, none⟩ = some (.int .i64 p) /\ W.cell? ⟨w.heap.size, 2, none⟩ = some (.int .i64 m) /\ W.cell? ⟨w.heap.size, 3, none⟩ = some (.int .i64 t) /\ W.cell? ⟨w.heap.size, 4, none⟩ = some (.int .i64 nw) /\ W.cell? ⟨w.heap.size, 5, none⟩ = some (.int .i64 a) /\ W.cell? ⟨w.heap.size, 6, none⟩ = some (.int .i64 b) /\ W.cell? ⟨w.heap.size, 7, none⟩ = some (.int .i64 c) /\ W.cell? ⟨w.heap.size, 8, none⟩ = some (.int .i64 d) /\ W.cell? ⟨w.heap.size, 9, none⟩ = some (.int .i64 a2) /\ W.cell? ⟨w.heap.size, 10, none⟩ = some (.int .i64 b2) /\ W.cell? ⟨w.heap.size, 11, none⟩ = some (.int .i64 c2) /\ W.cell? ⟨w.heap.size, 12, none⟩ = some (.int .i64 d2) /\ W.cell? ⟨w.heap.size, 13, none⟩ = some (.slice none 0 0) from fun W hW => ⟨((bcell hW).1 _ _ hws).trans k0, ((bcell hW).1 _ _ hws).trans k1, ((bcell hW).1 _ _ hws).trans k2, ((bcell hW).1 _ _ hws).trans k3, ((bcell hW).1 _ _ hws).trans k4, ((bcell hW).1 _ _ hws).trans k5, ((bcell hW).1 _ _ hws).trans k6, ((bcell hW).1 _ _ hws).trans k7, ((bcell hW).1 _ _ hws).trans k8, ((bcell hW).1 _ _ hws).trans k9, ((bcell hW).1 _ _ hws).trans k10, ((bcell hW).1 _ _ hws).trans k11, ((bcell hW).1 _ _ hws).trans k12, ((bcell hW).1 _ _ hws).trans k13⟩)
  have KB0 := hid (KB.out _ (Below.refl _ w1).drew)
  have TD := hid (show CrcT T w1.drew from HT.out.below B1.out.drew HT.out.lt)
  go_region_held3 (fun w' => w'.cell? ⟨w.heap.size, 0, none⟩ = some (.int .i64 g) /\ w'.cell? ⟨w.heap.size, 1, none⟩ = some (.int .i64 p) /\ w'.cell? ⟨w.heap.size, 2, none⟩ = some (.int .i64 m) /\ w'.cell? ⟨w.heap.size, 3, none⟩ = some (.int .i64 t) /\ w'.cell? ⟨w.heap.size, 4, none⟩ = some (.int .i64 nw) /\ w'.cell? ⟨w.heap.size, 5, none⟩ = some (.int .i64 a) /\ w'.cell? ⟨w.heap.size, 6, none⟩ = some (.int .i64 b) /\ w'.cell? ⟨w.heap.size, 7, none⟩ = some (.int .i64 c) /\ w'.cell? ⟨w.heap.size, 8, none⟩ = some (.int .i64 d) /\ w'.cell? ⟨w.heap.size, 9, none⟩ = some (.int .i64 a2) /\ w'.cell? ⟨w.heap.size, 10, none⟩ = some (.int .i64 b2) /\ w'.cell? ⟨w.heap.size, 11, none⟩ = some (.int .i64 c2) /\ w'.cell? ⟨w.heap.size, 12, none⟩ = some (.int .i64 d2) /\ w'.cell? ⟨w.heap.size, 13, none⟩ = some (.slice none 0 0)) (first | exact KB0.out | exact hS)
    (first
      | ((go_at_call 87); (with_reducible refine (PL.out _).mono ?_); (rintro e w2 ⟨rfl, rfl⟩))
      | ((go_at_call 161); (with_reducible refine (SE.out _ TD.out).mono ?_); (rintro e w2 ⟨a9, q9, rfl, ho9, hb9⟩); (have hS := KB.out _ (bidd hb9))))
  have B2 := hid (tB B1.out (bidd (w := w1) hb9))
  have k0' := hS.1
  have HO9 := hid ho9
  clear hS k0 k1 k2 k3 k4 k5 k6 k7 k8 k9 k10 k11 k12 k13 hb9 ho9
  go_wp2_with fail
  with_reducible refine (PL.out _).mono ?_
  rintro e w3 ⟨rfl, rfl⟩
  obtain ⟨aa, cc, he9, hr9⟩ := HO9.out.rd
  rw [hlE] at he9 hr9
  cases he9
  have hfoot : ∀ ad, a9 = some ad -> ¬ devF dp ib mb ad.block := fun ad e hd => by
    have h6 := HD.out.lt ad.block hd
    have h7 := (HO9.out.own.lt ad.block (by rw [e]; rfl)).1
    have h8 : w1.heap.size <= ad.block := h7
    have := B1.out.size
    omega
  go_wp2_with fail
  with_reducible refine (writeD dp ib mb cap n D S wr pi a9 64 q9 E _ (HD.out.below B2.out) (by omega) hr9 (by omega) hwr hfoot).mono ?_
  rintro e w4 ⟨rfl, n4, D4, hd4, hf4⟩
  have HD4 := hid hd4
  have F4 := hid ((Fr.of_below (S := devF dp ib mb) B2.out).trans hf4 (fun j hj => .inl hj))
  clear hd4 hf4
  go_wp2_with fail
  with_reducible refine (barrierD dp ib mb cap n4 D4 _ (wr + 1) _ HD4.out).mono ?_
  rintro e w5 ⟨rfl, hd5, hf5⟩
  go_wp2_with fail
  go_ret
  rw [pad64_self hlE] at hd5
  exact ⟨rfl, n4, hd5, F4.out.trans hf5 (fun j hj => .inl hj)⟩
end Go.Proofs.YtbikkioipamlmaaGreatDoor
