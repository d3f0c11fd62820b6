/-
  Laws and contracts for the statement TopExpired.
-/
import Derived.Test.YtbikkioipamlmaaGreatDoorX28
open Go.Lib (hid)
open Go.Proofs.Tryz (prog)
set_option linter.unusedVariables false
set_option linter.unusedSimpArgs false
set_option maxRecDepth 100000
set_option maxHeartbeats 20000000
namespace Go.Proofs.YtbikkioipamlmaaGreatDoor
open Go.Maps Go.RowKit L21 T16
theorem sbyt1 (v0 v1 v2 v3 v4 v5 v6 v7 v8 v9 s : Int) (eb : Nat) (w : World) (hs : w.cell? ⟨eb, 0, none⟩ = some (.int .i64 s)) :
    Calls prog 287 #[.agg #[.int .i64 v0, .int .i64 v1, .int .i64 v2, .int .i64 v3, .int .i64 v4, .int .i64 v5, .int .i64 v6, .int .i64 v7, .int .i64 v8, .int .i64 v9], .pointer (some ⟨eb, 0, none⟩)] w fun e w' => e = .returned (.bool (v3 == s)) /\ Below w.heap.size w w' := by
  have hl := World.block_lt_of_cell? _ _ hs
  go_enter Tryz.func287, Tryz.ntmps287
  go_wp2_with fail
  go_ret
  exact ⟨rfl, bel_al1 _⟩
theorem ridx1b (g cp eb : Nat) (l : Lay) (w : World) (hv : Vals w (some ⟨g, 0, none⟩) (regC [rg1 l])) (hs : w.cell? ⟨eb, 0, none⟩ = some (.int .i64 1)) :
    Calls prog 184 #[.slice (some ⟨g, 0, none⟩) 1 cp, .func (.func 287) #[] #[.pointer (some ⟨eb, 0, none⟩)]] w fun e w' => e = .returned (.int .i64 0) /\ Below w.heap.size w w' := by
  obtain ⟨hgl, hc⟩ : g < w.heap.size /\ ∀ i, i < 10 -> w.cell? ⟨g, i, none⟩ = (regC [rg1 l])[i]? := by
    obtain ⟨b, off, e, hb, _⟩ := hv 0 (by simp [regC, Reg.cells])
    cases e
    refine ⟨hb, fun i hi => ?_⟩
    obtain ⟨b, off, e, _, h⟩ := hv i (by simp [regC, Reg.cells]; exact hi)
    cases e
    rw [Nat.zero_add] at h
    rw [h]
  have c0 : w.cell? ⟨g, 0, none⟩ = some (.int .i64 l.ver) := hc 0 (by omega)
  have c1 : w.cell? ⟨g, 1, none⟩ = some (.int .i64 0) := hc 1 (by omega)
  have c2 : w.cell? ⟨g, 2, none⟩ = some (.int .i64 l.id) := hc 2 (by omega)
  have c3 : w.cell? ⟨g, 3, none⟩ = some (.int .i64 1) := hc 3 (by omega)
  have c4 : w.cell? ⟨g, 4, none⟩ = some (.int .i64 1) := hc 4 (by omega)
  have c5 : w.cell? ⟨g, 5, none⟩ = some (.int .i64 0) := hc 5 (by omega)
  have c6 : w.cell? ⟨g, 6, none⟩ = some (.int .i64 l.id) := hc 6 (by omega)
  have c7 : w.cell? ⟨g, 7, none⟩ = some (.int .i64 l.ver) := hc 7 (by omega)
  have c8 : w.cell? ⟨g, 8, none⟩ = some (.int .i64 l.rs) := hc 8 (by omega)
  have c9 : w.cell? ⟨g, 9, none⟩ = some (.int .i64 l.rg) := hc 9 (by omega)
  have SB := hid (sbyt1 l.ver 0 l.id 1 1 0 l.id l.ver l.rs l.rg 1 eb w hs)
  clear hv hc
  go_enter Tryz.func184, Tryz.ntmps184
  go_wp2_with fail
  go_loopw [8] (fun i wr => i = .int .i64 0 /\ wr = w) (fun i _ => 0)
  case atStart => exact ⟨rfl, rfl⟩
  case round =>
    obtain ⟨rfl, hwr⟩ := hrel
    subst hwr
    go_wp2_with fail
    with_reducible refine SB.out.mono ?_
    rintro e w1 ⟨rfl, hb⟩
    go_wp2_with fail
    go_ret
    exact ⟨rfl, hb⟩
section
variable {w : World} {T : Nat -> Int} {sb tb cb qb dp ib mb cap n wn N rb pb tk : Nat} {D : DataW Nat} {S : List (List Int)} {l : Lay} {now : Int} {m : Option (ByteArray × Ent)} {P Q R : Nat -> Prop} {lv sv : Value} {st : List Int} {col : Nat -> Nat}
theorem sbytes1 (h : Ss1 w T sb tb cb qb dp ib mb cap n D S wn l now m N P Q R lv rb pb st tk sv col) (off len : Nat) (ex : Int) (ht : Bool) (ho : off + len <= st.length) :
    Calls prog 223 #[.pointer (some ⟨sb, 0, none⟩), .agg #[.int .i64 1, .int .i64 (off : Int), .int .i64 (len : Int), .int .i64 ex, .bool ht]] w fun e w' => ∃ a' c', e = .returned (.tuple #[.slice a' len c', .int .i64 l.ver]) /\ Own8 w.heap.size w' (.slice a' len c') ((st.drop off).take len) /\ Below w.heap.size w w' := by
  obtain ⟨g, cp, cur, rfl, _, hgb, hgc⟩ := own_one h.lr
  have hl := lB h.sto
  obtain ⟨w0, hw0⟩ : ∃ w0, w.alloc (.cells #[.int .i64 1, .int .i64 (off : Int), .int .i64 (len : Int), .int .i64 ex, .bool ht] 110) = w0 := ⟨_, rfl⟩
  have B0 := hid (show Below w.heap.size w w0 by rw [<- hw0]; exact bel_al1 _)
  have HX0 := hid (show w0.heap[w.heap.size]? = some (.cells #[.int .i64 1, .int .i64 (off : Int), .int .i64 (len : Int), .int .i64 ex, .bool ht] 110 (0, 0)) by rw [<- hw0]; exact nB _ _)
  have H0 := hid (h.below B0.out)
  have KX := hid (show ∀ W, Below w0.heap.size w0 W -> (W.cell? ⟨sb, 21, none⟩ = some (.slice (some ⟨g, 0, none⟩) 1 cp) /\ W.cell? ⟨sb, 22, none⟩ = some (.pointer (some ⟨rb, 0, none⟩))) /\ W.cell? ⟨w.heap.size, 0, none⟩ = some (.int .i64 1) /\ W.cell? ⟨w.heap.size, 1, none⟩ = some (.int .i64 (off : Int)) /\ W.cell? ⟨w.heap.size, 2, none⟩ = some (.int .i64 (len : Int)) from fun W hW =>
    have e := (hW.block w.heap.size (lB HX0.out)).trans HX0.out
    have e' := (hW.block sb (lB H0.out.sto)).trans H0.out.sto
    ⟨⟨qB e', qB e'⟩, qB e, qB e, qB e⟩)
  have IX := hid (ridx1b g cp w.heap.size l w0 (vals_row H0.out.lr) (KX.out _ (Below.refl _ _)).2.1)
  have KG := hid (show ∀ W, Below w0.heap.size w0 W -> W.cell? ⟨g, 0, none⟩ = some (.int .i64 l.ver) /\ W.cell? ⟨g, 1, none⟩ = some (.int .i64 0) /\ W.cell? ⟨g, 2, none⟩ = some (.int .i64 l.id) /\ W.cell? ⟨g, 3, none⟩ = some (.int .i64 1) /\ W.cell? ⟨g, 4, none⟩ = some (.int .i64 1) /\ W.cell? ⟨g, 5, none⟩ = some (.int .i64 0) /\ W.cell? ⟨g, 6, none⟩ = some (.int .i64 l.id) /\ W.cell? ⟨g, 7, none⟩ = some (.int .i64 l.ver) /\ W.cell? ⟨g, 8, none⟩ = some (.int .i64 l.rs) /\ W.cell? ⟨g, 9, none⟩ = some (.int .i64 l.rg) from fun W hW =>
    have c : ∀ i, W.cell? ⟨g, i, none⟩ = w.cell? ⟨g, i, none⟩ := fun i => (hW.cell (p := ⟨g, i, none⟩) (Nat.lt_of_lt_of_le (lB hgb) B0.out.size)).trans (B0.out.cell (p := ⟨g, i, none⟩) (lB hgb))
    ⟨(c 0).trans (hgc 0 (by omega)), (c 1).trans (hgc 1 (by omega)), (c 2).trans (hgc 2 (by omega)), (c 3).trans (hgc 3 (by omega)), (c 4).trans (hgc 4 (by omega)), (c 5).trans (hgc 5 (by omega)), (c 6).trans (hgc 6 (by omega)), (c 7).trans (hgc 7 (by omega)), (c 8).trans (hgc 8 (by omega)), (c 9).trans (hgc 9 (by omega))⟩)
  obtain ⟨⟨e21, e22⟩, b0, b1, b2⟩ := KX.out _ (Below.refl _ _)
  have hl0 : sb < w0.heap.size := lB H0.out.sto
  clear hgc hgb h
  have HO := hid ho
  clear ho
  go_enter Tryz.func223, Tryz.ntmps223
  go_wp2_with fail
  (try rw [hw0])
  clear hw0
  with_reducible refine IX.out.mono ?_
  rintro e w1 ⟨rfl, hb1⟩
  have B1 := hid hb1
  clear hb1 e21 e22 b0 b1 b2
  obtain ⟨⟨e21, e22⟩, b0, b1, b2⟩ := KX.out _ B1.out
  obtain ⟨g0, g1, g2, g3, g4, g5, g6, g7, g8, g9⟩ := KG.out _ B1.out
  have hl1 : sb < w1.heap.size := World.block_lt_of_cell? _ _ e22
  go_upto_region 5 with fail
  obtain ⟨w2, hw2⟩ : ∃ w2, w1.alloc (.cells #[.int .i64 l.ver, .int .i64 0, .int .i64 l.id, .int .i64 1, .int .i64 1, .int .i64 0, .int .i64 l.id, .int .i64 l.ver, .int .i64 l.rs, .int .i64 l.rg] 68) = w2 := ⟨_, rfl⟩
  have B2 := hid (show Below w0.heap.size w0 w2 by rw [<- hw2]; exact bel_al B1.out _)
  have HR2 := hid (show w2.heap[w1.heap.size]? = some (.cells #[.int .i64 l.ver, .int .i64 0, .int .i64 l.id, .int .i64 1, .int .i64 1, .int .i64 0, .int .i64 l.id, .int .i64 l.ver, .int .i64 l.rs, .int .i64 l.rg] 68 (0, 0)) by rw [<- hw2]; exact nB _ _)
  rw [hw2]
  clear hw2 g0 g1 g2 g3 g4 g5 g6 g7 g8 g9 e21 e22 b0 b1 b2
  have KY := hid (show ∀ W, Below w2.heap.size w2 W -> ((W.cell? ⟨sb, 21, none⟩ = some (.slice (some ⟨g, 0, none⟩) 1 cp) /\ W.cell? ⟨sb, 22, none⟩ = some (.pointer (some ⟨rb, 0, none⟩))) /\ W.cell? ⟨w.heap.size, 0, none⟩ = some (.int .i64 1) /\ W.cell? ⟨w.heap.size, 1, none⟩ = some (.int .i64 (off : Int)) /\ W.cell? ⟨w.heap.size, 2, none⟩ = some (.int .i64 (len : Int))) /\ W.cell? ⟨w1.heap.size, 7, none⟩ = some (.int .i64 l.ver) from fun W hW =>
    ⟨KX.out W (tB B2.out hW), qB ((hW.block w1.heap.size (lB HR2.out)).trans HR2.out)⟩)
  have KD := hid (KY.out w2.drew (Below.refl _ _).drew)
  have HD := hid (show ∀ W, Below w2.heap.size w2 W -> Calls prog 143 #[.pointer (some ⟨rb, 0, none⟩)] W fun e w' => e = .returned (.agg #[.int .i64 l.ver, .int .i64 0, .int .i64 l.id, .int .i64 1, .int .i64 1, .int .i64 0]) /\ Below w2.heap.size w2 w' from fun W hW =>
    (rheader8 rb dp pb (hd1 l) l st tk sv W (H0.out.rg.below (tB B2.out hW))).mono (fun e w' q => ⟨q.1, tB hW q.2⟩))
  have RD := hid (fun W (hW : Below w2.heap.size w2 W) => rread8 rb dp pb (hd1 l) l st tk sv off len (off : Int) (len : Int) W (H0.out.rg.below (tB B2.out hW)) HO.out rfl rfl)
  have HF3 := fun W : World => hd_field3 l.ver 0 l.id 1 1 0 W
  go_region_held3 (fun w' => ((w'.cell? ⟨sb, 21, none⟩ = some (.slice (some ⟨g, 0, none⟩) 1 cp) /\ w'.cell? ⟨sb, 22, none⟩ = some (.pointer (some ⟨rb, 0, none⟩))) /\ w'.cell? ⟨w.heap.size, 0, none⟩ = some (.int .i64 1) /\ w'.cell? ⟨w.heap.size, 1, none⟩ = some (.int .i64 (off : Int)) /\ w'.cell? ⟨w.heap.size, 2, none⟩ = some (.int .i64 (len : Int))) /\ w'.cell? ⟨w1.heap.size, 7, none⟩ = some (.int .i64 l.ver)) (first | with_reducible exact hS3 | with_reducible exact KD.out)
    (first
      | ((go_at_call 143); (with_reducible refine (HD.out _ (Below.refl _ w2).drew).mono ?_); (rintro e x3 ⟨rfl, hb3⟩); (have hS3 := KY.out _ hb3)))
  have B3 := hid hb3
  clear hb3 hS3 KD
  have KD := hid (KY.out x3.drew B3.out.drew)
  go_upto_region 6 with fail
  go_region_held3 (fun w' => ((w'.cell? ⟨sb, 21, none⟩ = some (.slice (some ⟨g, 0, none⟩) 1 cp) /\ w'.cell? ⟨sb, 22, none⟩ = some (.pointer (some ⟨rb, 0, none⟩))) /\ w'.cell? ⟨w.heap.size, 0, none⟩ = some (.int .i64 1) /\ w'.cell? ⟨w.heap.size, 1, none⟩ = some (.int .i64 (off : Int)) /\ w'.cell? ⟨w.heap.size, 2, none⟩ = some (.int .i64 (len : Int))) /\ w'.cell? ⟨w1.heap.size, 7, none⟩ = some (.int .i64 l.ver)) (first | with_reducible exact hS4 | with_reducible exact KD.out)
    (first
      | ((go_at_call 288); (with_reducible refine (RD.out _ B3.out.drew).mono ?_); (rintro e x4 ⟨ra, rc, rfl, ho4, hb4⟩); (have hB4 := tB B3.out.drew hb4); (have hS4 := KY.out _ hB4)))
  have FIN := hid (And.intro (ho4.mono (show w.heap.size <= _ from Nat.le_trans B0.out.size (Nat.le_trans B2.out.size B3.out.size))) (tB B0.out (tB B2.out hB4)))
  clear ho4 hb4 hB4 hS4
  go_wp2_with fail
  go_ret2
  exact ⟨_, _, rfl, FIN.out⟩
end
end Go.Proofs.YtbikkioipamlmaaGreatDoor
namespace Go.Proofs.YtbikkioipamlmaaGreatDoor.S19
open Go.RowKit
def Sk (k : IntKind) (w : World) (b : Nat) (c : Nat -> Nat) (n : Nat) : Prop :=
  (∀ i, i < 256 -> w.cell? ⟨b, i, none⟩ = some (.int k (c i : Int))) /\ w.cell? ⟨b, 256, none⟩ = some (.int .i64 (n : Int)) /\ (∀ i, w.frozen? ⟨b, i, none⟩ = false)
def idx (h : Int) (r : Nat) : Nat := r * 64 + (rowD h (r : Int)).toNat
def upd (c : Nat -> Nat) (i v : Nat) : Nat -> Nat := fun j => if j = i then v else c j
def bump (c : Nat -> Nat) (i : Nat) : Nat -> Nat := upd c i (min (c i + 1) 15)
def rowsD (c : Nat -> Nat) (h : Int) : Nat -> Nat -> Nat
  | 0 => c
  | r + 1 => bump (rowsD c h r) (idx h r)
def half (c : Nat -> Nat) (m : Nat) : Nat -> Nat := fun i => if i < m then c i / 2 else c i
def touchC (c : Nat -> Nat) (n : Nat) (h : Int) : Nat -> Nat := if n + 1 < 640 then rowsD c h 4 else half (rowsD c h 4) 256
def touchN (n : Nat) : Nat := if n + 1 < 640 then n + 1 else 320
theorem half_zero (c : Nat -> Nat) : half c 0 = c := by funext i; unfold half; rw [if_neg (by omega)]
theorem half_succ (c : Nat -> Nat) (m : Nat) : half c (m + 1) = upd (half c m) m (half c m m / 2) := by
  funext i
  unfold upd half
  by_cases h : i = m
  · subst h; rw [if_pos rfl, if_pos (by omega), if_neg (by omega)]
  · rw [if_neg h]
    by_cases h2 : i < m
    · rw [if_pos h2, if_pos (by omega)]
    · rw [if_neg h2, if_neg (by omega)]
theorem rowD_rng (h n : Int) : 0 <= rowD h n /\ rowD h n < 64 := by
  unfold rowD
  split <;> omega
theorem idx_lt (h : Int) (r : Nat) (hr : r < 4) : idx h r < 256 := by
  have := rowD_rng h r
  unfold idx; omega
theorem bump_le (c : Nat -> Nat) (i : Nat) (hc : ∀ j, c j <= 15) : ∀ j, bump c i j <= 15 := by
  intro j
  unfold bump upd
  split
  · omega
  · exact hc j
theorem rowsD_le (c : Nat -> Nat) (h : Int) (hc : ∀ j, c j <= 15) (r : Nat) : ∀ j, rowsD c h r j <= 15 := by
  induction r with
  | zero => exact hc
  | succ r ih => exact bump_le _ _ ih
theorem Sk.setC {k : IntKind} {w : World} {b : Nat} {c : Nat -> Nat} {n : Nat} (h : Sk k w b c n) (i v : Nat) (hi : i < 256) : Sk k (w.setCell ⟨b, i, none⟩ (.int k (v : Int))) b (upd c i v) n := by
  obtain ⟨h1, h2, h3⟩ := h
  refine ⟨fun j hj => ?_, ?_, fun j => by rw [World.frozen?_setCell]; exact h3 j⟩
  · unfold upd
    by_cases hji : j = i
    · subst hji
      rw [if_pos rfl, World.cell?_setCell_same _ _ _ (h1 j hj)]
    · rw [if_neg hji, World.cell?_setCell_other _ _ _ _ (fun e => hji (by injection e with _ e2 _; exact e2.symm)), h1 j hj]
  · rw [World.cell?_setCell_other _ _ _ _ (fun e => by injection e with _ e2 _; omega), h2]
theorem Sk.setN {k : IntKind} {w : World} {b : Nat} {c : Nat -> Nat} {n : Nat} (h : Sk k w b c n) (v : Nat) : Sk k (w.setCell ⟨b, 256, none⟩ (.int .i64 (v : Int))) b c v := by
  obtain ⟨h1, h2, h3⟩ := h
  refine ⟨fun j hj => ?_, ?_, fun j => by rw [World.frozen?_setCell]; exact h3 j⟩
  · rw [World.cell?_setCell_other _ _ _ _ (fun e => by injection e with _ e2 _; omega), h1 j hj]
  · rw [World.cell?_setCell_same _ _ _ h2]
theorem grown_set {w w' : World} {b i : Nat} {v : Value} (h : w.grownBy w' (some b)) : w.grownBy (w'.setCell ⟨b, i, none⟩ v) (some b) :=
  ⟨h.os, h.tape, h.output, by simpa [World.setCell] using h.size, fun k hk hne => by
    rw [Below.heap_setCell _ _ _ _ (by simpa using fun e => hne (by rw [e]))]; exact h.block k hk hne⟩
theorem grown_drewN {w w' : World} {r : Option Nat} (h : w.grownBy w' r) (n : Nat) : w.grownBy (w'.drewN n) r :=
  ⟨h.os, h.tape, h.output, h.size, h.block⟩
theorem Sk.drewN {k : IntKind} {w : World} {b : Nat} {c : Nat -> Nat} {n : Nat} (h : Sk k w b c n) (m : Nat) : Sk k (w.drewN m) b c n :=
  ⟨fun i hi => h.1 i hi, h.2.1, fun i => h.2.2 i⟩
theorem Sk.drew {k : IntKind} {w : World} {b : Nat} {c : Nat -> Nat} {n : Nat} (h : Sk k w b c n) : Sk k w.drew b c n :=
  ⟨fun i hi => h.1 i hi, h.2.1, fun i => h.2.2 i⟩
theorem grown_drew {w w' : World} {r : Option Nat} (h : w.grownBy w' r) : w.grownBy w'.drew r := ⟨h.os, h.tape, h.output, h.size, h.block⟩
theorem half_le (c : Nat -> Nat) (m : Nat) (hc : ∀ j, c j <= 15) : ∀ j, half c m j <= 15 := by
  intro j
  have := hc j
  unfold half
  split <;> omega
def NoRes (e : Ending) : Prop := e = .returned (.tuple #[])
theorem touch7 (b : Nat) (h : Int) (c : Nat -> Nat) (n : Nat) (w : World) (h0 : 0 <= h) (h1 : h < 18446744073709551616) (hs : Sk .u8 w b c n) (hc : ∀ j, c j <= 15) (hn : n < 640) :
    Calls prog 75 #[.pointer (some ⟨b, 0, none⟩), .int .u64 h] w fun e w' => NoRes e /\ Sk .u8 w' b (touchC c n h) (touchN n) /\ w.grownBy w' (some b) := by
  have HS := hid hs
  have HC := hid hc
  clear hs hc
  go_enter Tryz.func75, Tryz.ntmps75
  go_wp2_with fail
  go_loopw [4, 5, 10] (fun _ _ i wr => ∃ k : Nat, k <= 4 /\ i = .int .i64 k /\ Sk .u8 wr b (rowsD c h k) n /\ w.grownBy wr (some b)) (fun _ _ i _ => 4 - (intOf i).toNat)
  case atStart => exact ⟨0, Nat.zero_le _, rfl, HS.out, World.grownBy.refl _ _⟩
  case round =>
    obtain ⟨k, hk, rfl, hsk, hg⟩ := hrel
    have K := hid hsk
    have G := hid hg
    clear hsk hg
    by_cases hlt : k < 4
    · have hr := rowD_rng h k
      go_wp2_with fail
      go_quiet ((go_at_call 139; exact Calls.quiet_of_same ((row11 h k _ h0 h1).mono fun e w' hw => ⟨hw.1, hw.2.symm⟩)))
      have ha : k * 64 + (rowD h (k : Int)).toNat < 256 := idx_lt h k hlt
      have hstep : rowsD c h (k + 1) = bump (rowsD c h k) (k * 64 + (rowD h (k : Int)).toNat) := rfl
      have hle := rowsD_le c h HC.out k
      have KS := hid (K.out.drewN nq)
      have GS := hid (grown_drewN G.out nq)
      clear K G
      obtain ⟨c1, hc1⟩ : ∃ c1, rowsD c h (k + 1) = c1 := ⟨_, rfl⟩
      rw [hc1] at hstep
      have HC1 := hid hc1
      clear hc1
      generalize k * 64 + (rowD h (k : Int)).toNat = a at *
      generalize rowsD c h k = c0 at *
      generalize wr.drewN nq = w1 at *
      have hcell := KS.out.1 a ha
      have hfr := KS.out.2.2 a
      have hv := hle a
      have HST := hid hstep
      clear hstep hle hr
      by_cases hlt15 : c0 a < 15
      · have e1 : c1 = upd c0 a (c0 a + 1) := by rw [HST.out]; unfold bump; rw [Nat.min_eq_left (by omega)]
        have E1 := hid e1
        clear e1
        have hcast : ((c0 a : Int) + 1) = ((c0 a + 1 : Nat) : Int) := by omega
        have HCAST := hid hcast
        clear hcast
        go_wp2_with fail
        go_roundw
        case rel => exact ⟨k + 1, by omega, by go_num, by rw [HC1.out, E1.out, HCAST.out]; exact KS.out.setC a _ ha, grown_set GS.out⟩
        case measure => simp [intOf]; omega
      · have e1 : c1 = c0 := by
          rw [HST.out]; funext j; unfold bump upd
          split
          · subst_vars; omega
          · rfl
        have E1 := hid e1
        clear e1
        go_wp2_with fail
        go_roundw
        case rel => exact ⟨k + 1, by omega, by go_num, by rw [HC1.out, E1.out]; exact KS.out, GS.out⟩
        case measure => simp [intOf]; omega
    · obtain rfl : k = 4 := by omega
      have hN := K.out.2.1
      have hF := K.out.2.2 256
      have hle := rowsD_le c h HC.out 4
      obtain ⟨c0, hc0⟩ : ∃ c0, rowsD c h 4 = c0 := ⟨_, rfl⟩
      have HC0 := hid hc0
      rw [hc0] at K hle
      clear hc0
      have HLE := hid hle
      clear hle
      by_cases hn1 : n + 1 < 640
      · have hfin : touchC c n h = c0 /\ touchN n = n + 1 := by unfold touchC touchN; rw [if_pos hn1, if_pos hn1]; exact ⟨HC0.out, rfl⟩
        have HFIN := hid hfin
        clear hfin
        go_wp2_with fail
        refine bodyPost_ret (results_none rfl _ _ _) rfl ?_
        exact ⟨rfl, by rw [HFIN.out.1, HFIN.out.2]; exact K.out.setN (n + 1), grown_set G.out⟩
      · obtain rfl : n = 639 := by omega
        have hfin : touchC c 639 h = half c0 256 /\ touchN 639 = 320 := by unfold touchC touchN; rw [if_neg hn1, if_neg hn1, HC0.out]; exact ⟨rfl, rfl⟩
        have HFIN := hid hfin
        clear hfin hn1
        go_wp2_with fail
        have K1 := hid ((K.out.setN 640).setN 320)
        have G1 := hid (grown_set (i := 256) (v := .int .i64 320) (grown_set (i := 256) (v := .int .i64 640) G.out))
        obtain ⟨w1, hw1⟩ : ∃ w1, (wr.setCell ⟨b, 256, none⟩ (.int .i64 640)).setCell ⟨b, 256, none⟩ (.int .i64 320) = w1 := ⟨_, rfl⟩
        have K2 := hid (show Sk .u8 w1 b c0 320 from hw1 ▸ K1.out)
        have G2 := hid (show w.grownBy w1 (some b) from hw1 ▸ G1.out)
        rw [hw1]
        clear hw1 hN hF K G K1 G1
        go_loopw [6, 7, 51, 54] (fun _ _ i _ wq => ∃ k : Nat, k <= 4 /\ i = .int .i64 k /\ Sk .u8 wq b (half c0 (k * 64)) 320 /\ w.grownBy wq (some b)) (fun _ _ i _ _ => 4 - (intOf i).toNat)
        case atStart => exact ⟨0, Nat.zero_le _, rfl, by rw [Nat.zero_mul, half_zero]; exact K2.out, G2.out⟩
        case round =>
          obtain ⟨k, hk, rfl, hsk, hg⟩ := hrel
          have K := hid hsk
          have G := hid hg
          clear hsk hg
          by_cases hlt : k < 4
          · go_wp2_with fail
            go_loopw [7, 54] (fun _ i wq => ∃ q : Nat, q <= 64 /\ i = .int .i64 q /\ Sk .u8 wq b (half c0 (k * 64 + q)) 320 /\ w.grownBy wq (some b)) (fun _ i _ => 64 - (intOf i).toNat)
            case atStart => exact ⟨0, Nat.zero_le _, rfl, K.out, G.out⟩
            case round =>
              obtain ⟨q, hq, rfl, hsk, hg⟩ := hrel
              have K := hid hsk
              have G := hid hg
              clear hsk hg
              by_cases hlq : q < 64
              · have ha : k * 64 + q < 256 := by omega
                have hcell := K.out.1 (k * 64 + q) ha
                have hfr := K.out.2.2 (k * 64 + q)
                go_wp2_with fail
                go_region
                go_wp2_with fail
                go_roundw
                case rel =>
                  refine ⟨q + 1, by omega, by go_num, ?_, grown_drew (grown_set G.out)⟩
                  have hv := half_le c0 (k * 64 + q) HLE.out (k * 64 + q)
                  rw [show ((half c0 (k * 64 + q) (k * 64 + q) : Nat) : Int) / 2 % 256 = ((half c0 (k * 64 + q) (k * 64 + q) / 2 : Nat) : Int) from by omega]
                  rw [show k * 64 + (q + 1) = (k * 64 + q) + 1 from by omega, half_succ]
                  exact (K.out.setC _ _ ha).drew
                case measure => simp [intOf]; omega
              · obtain rfl : q = 64 := by omega
                go_wp2_with fail
                go_roundw
                case rel => exact ⟨k + 1, by omega, by go_num, by rw [Nat.succ_mul]; exact K.out, G.out⟩
                case measure => simp [intOf]; omega
          · obtain rfl : k = 4 := by omega
            go_wp2_with fail
            go_end0
            exact ⟨rfl, by rw [HFIN.out.1, HFIN.out.2]; exact K.out, G.out⟩
def estD (c : Nat -> Nat) (h : Int) : Nat -> Nat
  | 0 => 15
  | r + 1 => min (estD c h r) (c (idx h r))
theorem estD_le (c : Nat -> Nat) (h : Int) (r : Nat) : estD c h r <= 15 := by
  induction r with
  | zero => exact Nat.le_refl _
  | succ r ih => unfold estD; omega
theorem est10 (b : Nat) (h : Int) (c : Nat -> Nat) (n : Nat) (w : World) (h0 : 0 <= h) (h1 : h < 18446744073709551616) (hs : Sk .u8 w b c n) (hc : ∀ j, c j <= 15) :
    Calls prog 78 #[.pointer (some ⟨b, 0, none⟩), .int .u64 h] w fun e w' => e = .returned (.int .i64 (estD c h 4 : Int)) /\ ∃ m, w' = w.drewN m := by
  have HS := hid hs
  have HC := hid hc
  clear hs hc
  go_enter Tryz.func78, Tryz.ntmps78
  go_wp2_with fail
  go_loopw [5, 6, 9] (fun e _ i wr => ∃ k : Nat, k <= 4 /\ i = .int .i64 k /\ e = .int .i64 (estD c h k : Int) /\ ∃ m, wr = w.drewN m) (fun _ _ i _ => 4 - (intOf i).toNat)
  case atStart => exact ⟨0, Nat.zero_le _, rfl, rfl, 0, rfl⟩
  case round =>
    obtain ⟨k, hk, rfl, rfl, hm⟩ := hrel
    have HM := hid hm
    have K := hid (show Sk .u8 wr b c n from by obtain ⟨m, rfl⟩ := hm; exact HS.out.drewN m)
    clear hm
    by_cases hlt : k < 4
    · have hr := rowD_rng h k
      have ha : k * 64 + (rowD h (k : Int)).toNat < 256 := idx_lt h k hlt
      have hstep : estD c h (k + 1) = min (estD c h k) (c (k * 64 + (rowD h (k : Int)).toNat)) := rfl
      have hcell := K.out.1 (k * 64 + (rowD h (k : Int)).toNat) ha
      obtain ⟨e1, he1⟩ : ∃ e1, estD c h (k + 1) = e1 := ⟨_, rfl⟩
      rw [he1] at hstep
      have HE1 := hid he1
      clear he1
      have hle := estD_le c h k
      have hcv := HC.out (k * 64 + (rowD h (k : Int)).toNat)
      generalize estD c h k = e0 at *
      obtain ⟨q, hq⟩ : ∃ q : Nat, rowD h (k : Int) = (q : Int) := Int.eq_ofNat_of_zero_le hr.1
      have HR := hid (row11 h k)
      rw [hq] at HR hr ha hstep hcell hcv
      rw [Int.toNat_natCast] at ha hstep hcell hcv
      clear hq
      generalize c (k * 64 + q) = v at *
      have HST := hid hstep
      clear hstep
      by_cases hmin : e0 <= v
      · have hmi : (e0 : Int) <= (v : Int) := by omega
        have e2 : e1 = e0 := by rw [HST.out]; omega
        have E2 := hid e2
        clear e2
        go_wp2_with fail
        go_quiet ((go_at_call 139; exact Calls.quiet_of_same ((HR.out _ h0 h1).mono fun e w' hw => ⟨hw.1, hw.2.symm⟩)))
        go_wp2_with fail
        go_roundw
        case rel => exact ⟨k + 1, by omega, by go_num, by first | (rw [HE1.out, E2.out]; done) | (rw [HE1.out, E2.out]; congr 1; omega), by obtain ⟨m, hm⟩ := HM.out; exact ⟨m + nq, by rw [hm, World.drewN_drewN]⟩⟩
        case measure => simp [intOf]; omega
      · have hmi : (v : Int) < (e0 : Int) := by omega
        have e2 : e1 = v := by rw [HST.out]; omega
        have E2 := hid e2
        clear e2
        go_wp2_with fail
        go_quiet ((go_at_call 139; exact Calls.quiet_of_same ((HR.out _ h0 h1).mono fun e w' hw => ⟨hw.1, hw.2.symm⟩)))
        go_wp2_with fail
        go_roundw
        case rel => exact ⟨k + 1, by omega, by go_num, by first | (rw [HE1.out, E2.out]; done) | (rw [HE1.out, E2.out]; congr 1; omega), by obtain ⟨m, hm⟩ := HM.out; exact ⟨m + nq, by rw [hm, World.drewN_drewN]⟩⟩
        case measure => simp [intOf]; omega
    · obtain rfl : k = 4 := by omega
      go_wp2_with fail
      go_ret
      exact ⟨rfl, HM.out⟩
def skZ : Array Value := (Array.replicate 256 (Value.int .u8 0)).push (.int .i64 0)
theorem zero_sk (w : World) : (zeroValue 259).run prog w = .ok (.agg skZ) w := by kernel_rfl
theorem skZ_at (i : Nat) (h : i < 256) : skZ[i]? = some (.int .u8 0) := by
  unfold skZ
  rw [Array.getElem?_push, if_neg (by simp; omega)]
  simp [h]
theorem skZ_last : skZ[256]? = some (.int .i64 0) := by
  unfold skZ
  rw [Array.getElem?_push, if_pos (by simp)]
theorem frozen_new (w : World) (cs : Array Value) (t : TypeId) (i : Nat) : (w.alloc (.cells cs t)).frozen? ⟨w.heap.size, i, none⟩ = false := by
  have h : (w.alloc (.cells cs t)).heap[w.heap.size]? = some (.cells cs t (0, 0)) := heap_alloc_new w _
  unfold World.frozen?
  rw [h]
  simp
theorem new6 (w : World) :
    Calls prog 102 #[] w fun e w' => e = .returned (.pointer (some ⟨w.heap.size, 0, none⟩)) /\ Sk .u8 w' w.heap.size (fun _ => 0) 0 /\ w.grownBy w' none := by
  have hz := zero_sk
  go_enter Tryz.func102, Tryz.ntmps102
  go_wp2_with fail
  go_ret
  refine ⟨rfl, ⟨fun i hi => ?_, ?_, fun i => frozen_new _ _ _ _⟩, World.grownBy_alloc _ _ _⟩
  · rw [World.cell?_alloc_at _ _ _ _ rfl, skZ_at i hi]; rfl
  · rw [World.cell?_alloc_at _ _ _ _ rfl, skZ_last]; rfl
end Go.Proofs.YtbikkioipamlmaaGreatDoor.S19
namespace Go.Proofs.YtbikkioipamlmaaGreatDoor
open Go.Maps Go.RowKit L21 T16
section
variable {w : World} {T : Nat -> Int} {sb tb cb qb dp ib mb cap n wn N rb pb tk : Nat} {D : DataW Nat} {S : List (List Int)} {l : Lay} {now : Int} {P Q R : Nat -> Prop} {lv sv : Value} {st : List Int} {col : Nat -> Nat}
theorem svalue1 (key : ByteArray) (r : Rec) (kn vn : Nat) (ht : Bool) (h : Ss1 w T sb tb cb qb dp ib mb cap n D S wn l now (some (key, ⟨1, 0, ((16 + kn + vn : Nat) : Int), r.exp, ht⟩)) N P Q R lv rb pb (recE T l.ver 1 0 r) tk sv col) (hk : key.size <= 255) (hc : recChk l.ver r = 0) (hkn : r.key.length = kn) (hvn : r.val.length = vn) :
    Calls prog 150 #[.pointer (some ⟨sb, 0, none⟩), .string key] w fun e w' => ∃ a' c' P' col', e = .returned (.tuple #[.slice a' vn c', .bool true]) /\ Own8 w.heap.size w' (.slice a' vn c') r.val /\ Ss1 w' T sb tb cb qb dp ib mb cap n D S wn l now (some (key, ⟨1, 0, ((16 + kn + vn : Nat) : Int), r.exp, ht⟩)) N P' Q R lv rb pb (recE T l.ver 1 0 r) tk sv col' /\ CStep w w' col col' /\ (∀ g, (Value.slice a' vn c').ownBlock = some g -> col' g = 0) := by
  have hl := lB h.sto
  have hel : (recE T l.ver 1 0 r).length = 16 + kn + vn := by rw [recE_length, hkn, hvn]
  have EN := hid (sentry8 sb tb cb qb dp ib mb cap n D S wn 0 l lv (some rb) 2 now _ N P key w h.sto h.dv h.ix.t (by omega))
  have H := hid h
  have HC := hid hc
  have HKN := hid hkn
  have HVN := hid hvn
  obtain ⟨rl, hrl⟩ : ∃ q, 16 + kn + vn = q := ⟨_, rfl⟩
  have HEL := hid hel
  rw [hrl] at EN H HEL ⊢
  have HRL := hid hrl
  clear h hc hkn hvn hel hrl
  go_enter Tryz.func150, Tryz.ntmps150
  go_wp2_with fail
  with_reducible refine EN.out.mono ?_
  rintro e w1 ⟨b, x, rfl, ht1, hb1, hb0⟩
  cases b with
  | false => exact absurd rfl ((hb0 rfl).1 _)
  | true =>
    obtain rfl : (⟨1, 0, (rl : Int), r.exp, ht⟩ : Ent) = x := by
      have := hb1 rfl
      injection this with this
      injection this with _ this
    obtain ⟨P1, h1, c1, -⟩ := H.out.stepT ht1 ⟨rfl, rfl⟩ (Nat.le_refl _)
    have H1 := hid h1
    have C1 := hid c1
    clear ht1 hb1 hb0 h1 c1
    unfold entV
    simp only
    have hl1 := lB H1.out.sto
    have B2 := hid (bel_al1 (w := w1) (.cells #[.int .i64 1, .int .i64 0, .int .i64 (rl : Int), .int .i64 r.exp, .bool ht] 110))
    have HE2 := hid (nB w1 (.cells #[.int .i64 1, .int .i64 0, .int .i64 (rl : Int), .int .i64 r.exp, .bool ht] 110))
    have BY := hid (show Calls prog 223 #[.pointer (some ⟨sb, 0, none⟩), .agg #[.int .i64 1, .int .i64 0, .int .i64 (rl : Int), .int .i64 r.exp, .bool ht]] (w1.alloc (.cells #[.int .i64 1, .int .i64 0, .int .i64 (rl : Int), .int .i64 r.exp, .bool ht] 110)) _ from sbytes1 (H1.out.below B2.out) 0 rl r.exp ht (by have := HEL.out; omega))
    go_wp2_with fail
    with_reducible refine BY.out.mono ?_
    rintro e w3 ⟨a3, c3, rfl, ho3, hb3⟩
    have B3 := hid (tB B2.out hb3)
    have hr3 : Rd8 w3 a3 rl c3 (recE T l.ver 1 0 r ++ []) := by
      obtain ⟨a', c', e, hr⟩ := ho3.rd
      rw [List.drop_zero, List.take_of_length_le (by rw [HEL.out]; exact Nat.le_refl _)] at hr e
      cases e
      rw [List.append_nil]
      rw [HEL.out] at hr
      exact hr
    have HE3 := hid (show w3.heap[w1.heap.size]? = some (.cells #[.int .i64 1, .int .i64 0, .int .i64 (rl : Int), .int .i64 r.exp, .bool ht] 110 (0, 0)) from (hb3.block w1.heap.size (lB HE2.out)).trans HE2.out)
    have DC := hid (rdec8 T l.ver 1 0 r [] a3 rl c3 kn vn w3 HC.out ((H1.out.ct.below B3.out H1.out.ct.lt)) hr3 (by omega) (by omega) (by omega) (by omega) HKN.out HVN.out)
    unfold recV at DC
    have d0 := qB (i := 0) HE3.out
    have d1 := qB (i := 1) HE3.out
    have d2 := qB (i := 2) HE3.out
    clear ho3 hb3 hr3 BY
    go_wp2_with fail
    with_reducible refine DC.out.mono ?_
    rintro e w4 ⟨ka, kc, va, vc, rfl, hok, hov, hb4⟩
    have B4 := hid (tB B3.out hb4)
    obtain ⟨_, _, e, hrv⟩ := hov.rd
    rw [HVN.out] at hrv e
    cases e
    have CL := hid (fun (W : World) (hW : Below w4.heap.size w4 W) => clone8z va vn vc r.val W (hrv.below hW (Nat.le_refl _)) (by have := (recChk_ok HC.out).2.2.2.2.1; have := HVN.out; omega))
    clear hok hov hb4 hrv d0 d1 d2
    go_wp2_with fail
    with_reducible refine (CL.out _ (bel_al1 _)).mono ?_
    rintro e w5 ⟨a5, c5, rfl, ho5, -, hb5⟩
    have hb45 := tB (bel_al1 (w := w4) _) hb5
    have B5 := hid (tB B4.out hb45)
    have s5 : w4.heap.size <= w5.heap.size := hb45.size
    have s15 := B4.out.size
    have FIN := hid (And.intro (ho5.mono (show w.heap.size <= _ from Nat.le_trans C1.out.fr.size (Nat.le_trans B4.out.size (bel_al1 (w := w4) _).size))) (And.intro (H1.out.below B5.out) (And.intro (C1.out.post B5.out) (show ∀ g, (Value.slice a5 vn c5).ownBlock = some g -> paint w w1 1 col g = 0 from fun g hg => H1.out.k0 g (Nat.le_trans B4.out.size (Nat.le_trans (bel_al1 (w := w4) _).size (ho5.own.lt g hg).1))))))
    clear ho5 hb5 hb45
    go_wp2_with fail
    go_ret2
    exact ⟨_, _, _, _, rfl, FIN.out⟩
theorem svalue0 (key : ByteArray) (h : Ss1 w T sb tb cb qb dp ib mb cap n D S wn l now none N P Q R lv rb pb st tk sv col) (hk : key.size <= 255) :
    Calls prog 150 #[.pointer (some ⟨sb, 0, none⟩), .string key] w fun e w' => ∃ P' col', e = .returned (.tuple #[.slice none 0 0, .bool false]) /\ Ss1 w' T sb tb cb qb dp ib mb cap n D S wn l now none N P' Q R lv rb pb st tk sv col' /\ CStep w w' col col' := by
  have hl := lB h.sto
  have EN := hid (sentry8 sb tb cb qb dp ib mb cap n D S wn 0 l lv (some rb) 2 now _ N P key w h.sto h.dv h.ix.t (by omega))
  have H := hid h
  clear h
  go_enter Tryz.func150, Tryz.ntmps150
  go_wp2_with fail
  with_reducible refine EN.out.mono ?_
  rintro e w1 ⟨b, x, rfl, ht1, hb1, hb0⟩
  cases b with
  | true => exact absurd (hb1 rfl) (by simp)
  | false =>
    obtain rfl := (hb0 rfl).2
    obtain ⟨P1, h1, c1, -⟩ := H.out.stepT ht1 ⟨rfl, rfl⟩ (Nat.le_refl _)
    have FIN := hid (fun (W : World) (hW : Below w1.heap.size w1 W) => And.intro (h1.below hW) (c1.post hW))
    clear ht1 hb1 hb0 h1 c1
    unfold entV ent0
    go_wp2_with fail
    go_ret2
    exact ⟨_, _, rfl, FIN.out _ (bel_al1 _)⟩
theorem sget0 (key : ByteArray) (h : Ss1 w T sb tb cb qb dp ib mb cap n D S wn l now none N P Q R lv rb pb st tk sv col) (hk : key.size <= 255) :
    Calls prog 83 #[.pointer (some ⟨sb, 0, none⟩), .string key] w fun e w' => ∃ P' col', e = .returned (.tuple #[.slice none 0 0, .bool false]) /\ Ss1 w' T sb tb cb qb dp ib mb cap n D S wn l now none N P' Q R lv rb pb st tk sv col' /\ CStep w w' col col' := by
  have VA := hid (svalue0 key h hk)
  clear h
  go_enter Tryz.func83, Tryz.ntmps83
  go_wp2_with fail
  with_reducible refine VA.out.mono ?_
  rintro e w1 ⟨P1, col1, rfl, h1, c1⟩
  have FIN := hid (And.intro h1 c1)
  clear h1 c1
  go_wp2_with fail
  go_ret2
  exact ⟨_, _, rfl, FIN.out⟩
theorem sget1 (key : ByteArray) (r : Rec) (kn vn : Nat) (ht : Bool) (h : Ss1 w T sb tb cb qb dp ib mb cap n D S wn l now (some (key, ⟨1, 0, ((16 + kn + vn : Nat) : Int), r.exp, ht⟩)) N P Q R lv rb pb (recE T l.ver 1 0 r) tk sv col) (hk : key.size <= 255) (hc : recChk l.ver r = 0) (hkn : r.key.length = kn) (hvn : r.val.length = vn) (hN : N <= 1000) :
    Calls prog 83 #[.pointer (some ⟨sb, 0, none⟩), .string key] w fun e w' => ∃ a' c' P' col', e = .returned (.tuple #[.slice a' vn c', .bool true]) /\ Own8 w.heap.size w' (.slice a' vn c') r.val /\ Ss1 w' T sb tb cb qb dp ib mb cap n D S wn l now (some (key, ⟨1, 0, ((16 + kn + vn : Nat) : Int), r.exp, true⟩)) (N + 1) P' Q R lv rb pb (recE T l.ver 1 0 r) tk sv col' /\ CStep w w' col col' := by
  have VA := hid (svalue1 key r kn vn ht h hk hc hkn hvn)
  have hl := lB h.sto
  obtain ⟨rl, hrl⟩ : ∃ q, 16 + kn + vn = q := ⟨_, rfl⟩
  rw [hrl] at VA ⊢
  clear h hc hkn hvn hrl
  go_enter Tryz.func83, Tryz.ntmps83
  go_wp2_with fail
  with_reducible refine VA.out.mono ?_
  rintro e w1 ⟨a1, c1, P1, col1, rfl, ho1, h1, cs1, hco⟩
  have O1 := hid ho1
  have H1 := hid h1
  have C1 := hid cs1
  have CO := hid hco
  have e0 : w1.cell? ⟨sb, 0, none⟩ = some (.pointer (some ⟨tb, 0, none⟩)) := qB (i := 0) h1.sto
  have hl1 := lB h1.sto
  have TG := hid (tget8 tb _ N key w1 P1 h1.ix.t (by omega))
  clear ho1 h1 cs1 hco VA
  go_wp2_with fail
  with_reducible refine TG.out.mono ?_
  rintro e w2 ⟨b, x, rfl, ht2, hb1, hb0⟩
  cases b with
  | false => exact absurd rfl ((hb0 rfl).1 _)
  | true =>
    obtain rfl : (⟨1, 0, (rl : Int), r.exp, ht⟩ : Ent) = x := by
      have := hb1 rfl
      injection this with this
      injection this with _ this
    obtain ⟨P2, h2, c2, -⟩ := H1.out.stepT ht2 ⟨rfl, rfl⟩ (Nat.le_refl _)
    have H2 := hid h2
    have C2 := hid (C1.out.trans c2)
    have O2 := hid (show Own8 w.heap.size w2 (.slice a1 vn c1) r.val from ⟨own_fr O1.out.own c2.fr (fun g hg q => q (CO.out g hg)), O1.out.byt⟩)
    have CO2 := hid (show ∀ g, (Value.slice a1 vn c1).ownBlock = some g -> paint w1 w2 1 col1 g = 0 from fun g hg => (c2.old g (O1.out.own.lt g hg).2).trans (CO.out g hg))
    clear ht2 hb1 hb0 h2 c2 e0 TG
    unfold entV
    simp only
    have f0 := S19.frozen_new w2 #[.int .i64 1, .int .i64 0, .int .i64 (rl : Int), .int .i64 r.exp, .bool ht] 110 4
    go_upto_region 5 with fail
    obtain ⟨w3, hw3⟩ : ∃ w3, w2.alloc (.cells #[.int .i64 1, .int .i64 0, .int .i64 (rl : Int), .int .i64 r.exp, .bool true] 110) = w3 := ⟨_, rfl⟩
    have B3 := hid (show Below w2.heap.size w2 w3 by rw [<- hw3]; exact bel_al1 _)
    have HE3 := hid (show w3.heap[w2.heap.size]? = some (.cells #[.int .i64 1, .int .i64 0, .int .i64 (rl : Int), .int .i64 r.exp, .bool true] 110 (0, 0)) by rw [<- hw3]; exact nB _ _)
    (try rw [hw3])
    clear hw3 f0
    have H3 := hid (H2.out.below B3.out)
    have nsb := hid (show ¬ P2 sb from fun q => by have a := H2.out.k1 _ (.inl q); have b := H2.out.k5; omega)
    have nbx := hid (show ¬ P2 w2.heap.size from fun q => by have a := H2.out.k1 _ (.inl q); have b := H2.out.k0 _ (Nat.le_refl _); omega)
    have KX := hid (show ∀ W, Fr P2 w3 W -> W.cell? ⟨sb, 0, none⟩ = some (.pointer (some ⟨tb, 0, none⟩)) /\ W.cell? ⟨w2.heap.size, 0, none⟩ = some (.int .i64 1) /\ W.cell? ⟨w2.heap.size, 1, none⟩ = some (.int .i64 0) /\ W.cell? ⟨w2.heap.size, 2, none⟩ = some (.int .i64 (rl : Int)) /\ W.cell? ⟨w2.heap.size, 3, none⟩ = some (.int .i64 r.exp) /\ W.cell? ⟨w2.heap.size, 4, none⟩ = some (.bool true) from fun W hW =>
      have e := (hW.block w2.heap.size (lB HE3.out) nbx.out).trans HE3.out
      have e' := (hW.block sb (lB H3.out.sto) nsb.out).trans H3.out.sto
      ⟨qB e', qB e, qB e, qB e, qB e, qB e⟩)
    have K3 := hid (KX.out w3.drew (Fr.refl _ _).drew)
    have TS := hid (show Calls prog 132 #[.pointer (some ⟨tb, 0, none⟩), .string key, .agg #[.int .i64 1, .int .i64 0, .int .i64 (rl : Int), .int .i64 r.exp, .bool true]] w3.drew _ from tset8 tb _ N key ⟨1, 0, (rl : Int), r.exp, true⟩ w3.drew P2 (H3.out.ix.t.fr (S := fun _ => False) (Fr.of_below (Below.refl _ _).drew) (fun _ _ f => f)) (by omega) (by omega) (.inr ⟨_, rfl⟩))
    have hl3 : sb < w3.heap.size := lB H3.out.sto
    go_region_held3 (fun w' => w'.cell? ⟨sb, 0, none⟩ = some (.pointer (some ⟨tb, 0, none⟩)) /\ w'.cell? ⟨w2.heap.size, 0, none⟩ = some (.int .i64 1) /\ w'.cell? ⟨w2.heap.size, 1, none⟩ = some (.int .i64 0) /\ w'.cell? ⟨w2.heap.size, 2, none⟩ = some (.int .i64 (rl : Int)) /\ w'.cell? ⟨w2.heap.size, 3, none⟩ = some (.int .i64 r.exp) /\ w'.cell? ⟨w2.heap.size, 4, none⟩ = some (.bool true)) (first | with_reducible exact hS4 | with_reducible exact K3.out)
      (first
        | ((go_at_call 132); (with_reducible refine TS.out.mono ?_); (rintro e x4 ⟨rfl, P4, t4, f4, n4⟩); (have hF4 := fr_undrew f4); (have hS4 := KX.out _ hF4)))
    obtain ⟨P5, h5, c5, -⟩ := H3.out.stepT (m' := some (key, ⟨1, 0, (rl : Int), r.exp, true⟩)) (N' := N + 1) ⟨P4, t4, hF4, n4⟩ ⟨rfl, rfl⟩ (Nat.le_succ _)
    have O5 := hid (show Own8 w.heap.size x4 (.slice a1 vn c1) r.val from ⟨own_fr (own_same O2.out.own (fun g hg => B3.out.block g (O2.out.own.lt g hg).2)) c5.fr (fun g hg q => q (CO2.out g hg)), O2.out.byt⟩)
    have FIN := hid (And.intro O5.out (And.intro h5 ((C2.out.post B3.out).trans c5)))
    clear t4 f4 n4 hF4 hS4 h5 c5 TS
    go_wp2_with fail
    go_ret2
    exact ⟨_, _, _, _, rfl, FIN.out⟩
end
end Go.Proofs.YtbikkioipamlmaaGreatDoor
