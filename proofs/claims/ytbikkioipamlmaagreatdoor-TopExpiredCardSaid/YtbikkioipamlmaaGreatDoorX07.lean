/-
  Laws and contracts for the statement TopExpired.
-/
import Derived.Deep.RegionHeld3
import Derived.Deep.AppendLies
import Derived.Test.YtbikkioipamlmaaGreatDoorX02
open Go.Lib (hid)
open Go.Proofs.Tryz (prog)
set_option linter.unusedVariables false
set_option linter.unusedSimpArgs false
set_option maxRecDepth 100000
set_option maxHeartbeats 20000000
namespace Go.Proofs.YtbikkioipamlmaaGreatDoor
open Go.RowKit
theorem step_app {P : Program} {w : World} {ops : Array Oper} {o : Oper} {a : Act} {K : Act -> World -> Prop} {Q : Exit -> Act -> World -> Prop} {E : Prop} (hgd : o.guard = none) (s x : Operand) (t : TypeId)
    (ho : o.op = .call { callee := .builtin .append, args := #[s, x], argTypes := #[t, t] })
    (base : Nat) (e : TypeId) (i : TypeInfo) (z : Value) (size bytes : Nat) (ht : P.underlying t = some (.slice e)) (hi : P.info? e = some i) (hz : i.zero = some z)
    (hsize : i.size = size) (hby : i.bytes = bytes) (hzs : z.cells.size = size) (hsz : 0 < size)
    (v : Value) (n : Nat) (xs : List Value) (hs : a.eval s = v) (hown : w.ownsRow base e size v n xs)
    (xv : Value) (m : Nat) (news : List Value) (hx : a.eval x = xv) (hsrc : Src w size xv m news) (h1 : ∀ u ∈ news, u.oneCell' = true)
    (h63 : n + m <= maxLen) (hbytes : (n + m) * bytes <= 140737488355328) (hbase : base <= w.heap.size)
    (h : ∀ v' w', w'.ownsRow base e size v' (n + m) (xs ++ news) -> w.grownBy w' v.ownBlock -> K (a.put o.dst v') w') :
    if Region.wanted o (yielded ops a.tmps) = true then Oper.wp P o a w K Q else E := by
  have hw : Region.wanted o (yielded ops a.tmps) = true := by simp [Region.wanted, hgd]
  rw [if_pos hw]
  obtain ⟨v', w', hr, h2, h3⟩ := run_app (P := P) (w := w) base t o.type e i z size bytes ht hi hz hsize hby hzs hsz v n xs hown xv m news hsrc h1 h63 hbytes hbase
  unfold Oper.wp execOp
  simp only [ho, resolve, invoke, builtin, Sem.run_bind, Sem.run_pure, Result.andThen_ok, List.map_toArray, List.map_cons, List.map_nil, hs, hx, hr]
  exact h v' w' h2 h3
theorem ownsRow_slice {w : World} {base : Nat} {e : TypeId} {size : Nat} {v : Value} {n : Nat} {vs : List Value} (h : w.ownsRow base e size v n vs) : ∃ a cap, v = .slice a n cap := by
  obtain ⟨a, cap, h, _⟩ := ownsRow_vals h
  exact ⟨a, cap, h⟩
theorem own_nil (w : World) (base : Nat) (e : TypeId) (size : Nat) : w.ownsRow base e size (.slice none 0 0) 0 [] := ⟨by simp, .inl ⟨rfl, rfl⟩⟩
def lenD (n : Int) : Int := if n = 0 then 0 else logE n + 1
theorem bitlen64 (n : Int) (w : World) (h : pow2B n = true \/ n = 0) : Calls prog 325 #[.int .u64 n] w fun e w' => e = .returned (.int .i64 (lenD n)) /\ w = w' := by
  simp only [pow2B, Bool.or_eq_true, beq_iff_eq] at h
  rcases h with ((((((((((h | h) | h) | h) | h) | h) | h) | h) | h) | h) | h) | h
  all_goals
    subst h
    go_enter Tryz.func325, Tryz.ntmps325
    go_wp2_with fail
    go_ret
    refine ⟨?_, rfl⟩
    kernel_rfl
theorem bitlen8 (n : Int) (w : World) (h : pow2B n = true \/ n = 0) : Calls prog 269 #[.int .u64 n] w fun e w' => e = .returned (.int .i64 (lenD n)) /\ w = w' := by
  go_enter Tryz.func269, Tryz.ntmps269
  go_wp2_with fail
  with_reducible refine (bitlen64 n _ h).mono ?_
  rintro e w1 ⟨rfl, rfl⟩
  go_wp2_with fail
  go_ret
  exact ⟨rfl, rfl⟩
theorem layout8 (v : Value) (B n : Nat) (bs : List Int) (l : Lay) (w : World) (h : Own8 B w v bs) (hl : bs.length = n) (hn : n <= 1000) (hf : formB l = true \/ l = lay0) :
    Calls prog 233 #[v, .agg #[.int .i64 l.id, .int .i64 l.ver, .int .i64 l.rs, .int .i64 l.rg]] w fun e w' => ∃ a' c', e = .returned (.slice a' (n + 7) c') /\ Own8 w.heap.size w' (.slice a' (n + 7) c') (bs ++ layE l) /\ Below w.heap.size w w' := by
  obtain ⟨a, cap, rfl, hr⟩ := h.rd
  rw [hl] at hr ⊢
  have R0 := hid hr
  have HF := hid hf
  have hlay : 0 <= l.id /\ l.id <= 4294967295 /\ 0 <= l.ver /\ l.ver <= 2 /\ (pow2B l.rs = true \/ l.rs = 0) /\ 0 <= l.rg /\ l.rg <= 16 := by
    rcases hf with hf | rfl
    · obtain ⟨a, b, c, d, e, f⟩ := formB_pow hf
      exact ⟨by omega, by omega, by omega, by omega, .inl d, by omega, by omega⟩
    · decide
  obtain ⟨i0, i1, v0, v1, hp, g0, g1⟩ := hlay
  obtain ⟨id, ver, rs, rg⟩ := l
  simp only at *
  obtain ⟨e0, e1, _⟩ := logE_rng hp
  obtain ⟨x0, hi, hz0, hz1, hz2⟩ := info_parts u8info
  have I1 := hid hi; have I2 := hid hz0; have I3 := hid hz1; have I4 := hid hz2
  have HL := hid hl
  have HBY := hid h.byt
  clear h hr hi hz0 hz1 hz2
  go_enter Tryz.func233, Tryz.ntmps233
  go_wp2_with fail
  with_reducible refine (put8z a n cap bs id 4 4 (n + 4) _ (R0.out.below (B := w.heap.size) ((Below.refl _ _).alloc (Nat.le_refl _) _) (Nat.le_refl _)) (by omega) i0 (by omega) (by omega) (by omega) rfl rfl).mono ?_
  rintro e w1 ⟨a1, c1, rfl, ho, hr1, hb⟩
  have hc0 := (bcell hb).1
  have k1 := hc0 w.heap.size 1 (by simp)
  have k2 := hc0 w.heap.size 2 (by simp)
  have k3 := hc0 w.heap.size 3 (by simp)
  simp only [qB (nB w _), List.getElem?_toArray, List.getElem?_cons_zero, List.getElem?_cons_succ] at k1 k2 k3
  have O1 := hid (show w1.ownsRow (w.heap.size + 1) 5 1 (.slice a1 (n + 4) c1) (n + 4) (u8s (bs ++ beN id 4)) by
    have h9 := (ho.mono (B' := w.heap.size + 1) (by simp)).own
    rwa [show (bs ++ beN id 4).length = n + 4 by rw [List.length_append, bL, hl]] at h9)
  have R1 := hid hr1
  have B1 := hid hb
  clear ho hr1 hb hc0
  go_wp2_with fail
  have hwv : IntKind.u8.wrap ver = ver := by rw [IntKind.wrap_u8]; omega
  have hwg : IntKind.u8.wrap rg = rg := by rw [IntKind.wrap_u8]; omega
  have hrs : 0 <= rs /\ rs <= 2048 := by rcases hp with hp | hp; (have := pow2_rng hp; omega); omega
  have hwr : IntKind.u64.wrap rs = rs := by simp [IntKind.wrap, IntKind.bits, IntKind.signed]; omega
  have hq1 : IntKind.i64.wrap (lenD rs - 1) = lenD rs - 1 := by
    have : 0 <= lenD rs /\ lenD rs <= 12 := by unfold lenD; split <;> omega
    rw [IntKind.wrap_i64]; omega
  have hq2 : (if lenD rs - 1 < 0 then 0 else lenD rs - 1) = logE rs := by
    unfold lenD
    split
    · next h => subst h; rfl
    · split <;> omega
  have hq3 : IntKind.u8.wrap (logE rs) = logE rs := by rw [IntKind.wrap_u8]; omega
  have BL := hid (fun W => bitlen8 rs W hp)
  have HBS := hid (show ∀ o : Obj, w.heap.size + 1 <= (w1.alloc o).drew.heap.size from fun o => by have := B1.out.size; simp at this; show _ <= (w1.alloc o).heap.size; simp; omega)
  have hn1 : n + 4 + 3 <= maxLen := by unfold maxLen; omega
  have HO1 := hid (fun o : Obj => (O1.out.alloc o).drew)
  have hws : w.heap.size < w1.heap.size := by have := B1.out.size; simp at this; omega
  have KA := hid (show ∀ o : Obj, (w1.alloc o).drew.cell? ⟨w.heap.size, 1, none⟩ = some (.int .i64 ver) /\ (w1.alloc o).drew.cell? ⟨w.heap.size, 2, none⟩ = some (.int .i64 rs) /\ (w1.alloc o).drew.cell? ⟨w.heap.size, 3, none⟩ = some (.int .i64 rg) from fun o => ⟨(World.cell?_alloc_past o _ _ hws).trans k1, (World.cell?_alloc_past o _ _ hws).trans k2, (World.cell?_alloc_past o _ _ hws).trans k3⟩)
  have KG := hid (show ∀ (o : Obj) (W' : World), (w1.alloc o).drew.grownBy W' (Value.slice a1 (n + 4) c1).ownBlock -> W'.cell? ⟨w.heap.size, 1, none⟩ = some (.int .i64 ver) /\ W'.cell? ⟨w.heap.size, 2, none⟩ = some (.int .i64 rs) /\ W'.cell? ⟨w.heap.size, 3, none⟩ = some (.int .i64 rg) from fun o W' hg =>
    ⟨keep_app hg (HO1.out o) (by omega) (by have := HBS.out o; omega) (KA.out o).1, keep_app hg (HO1.out o) (by omega) (by have := HBS.out o; omega) (KA.out o).2.1, keep_app hg (HO1.out o) (by omega) (by have := HBS.out o; omega) (KA.out o).2.2⟩)
  have BF := hid (show ∀ (o : Obj) (W' : World), (w1.alloc o).drew.grownBy W' (Value.slice a1 (n + 4) c1).ownBlock -> Below w.heap.size w W' from fun o W' hg => by
    exact bel_far (bel1 B1.out) O1.out (by omega) hg)
  go_region_held3 (fun w' => w'.cell? ⟨w.heap.size, 1, none⟩ = some (.int .i64 ver) /\ w'.cell? ⟨w.heap.size, 2, none⟩ = some (.int .i64 rs) /\ w'.cell? ⟨w.heap.size, 3, none⟩ = some (.int .i64 rg)) (first | exact ⟨k1, k2, k3⟩ | exact KA.out _ | exact hS)
    (first
      | ((go_simp); (go_at_call 269); (with_reducible refine (BL.out _).mono ?_); (rintro e w2 ⟨rfl, rfl⟩))
      | ((with_reducible apply step_app (hgd := rfl) (t := 33) (base := w.heap.size + 1) (e := 5) (i := x0) (z := .int .u8 0) (size := 1) (bytes := 1) (v := .slice a1 (n + 4) c1) (n := n + 4) (xs := u8s (bs ++ beN id 4)) (m := 3) (news := [.int .u8 ver, .int .u8 (logE rs), .int .u8 rg]) (ht := Tryz.underlying33) (hi := I1.out) (hz := I2.out) (hsize := I3.out) (hby := I4.out) (hzs := rfl)); (case ho => exact rfl); (case hs => exact rfl); (case hx => exact rfl); (case hsz => decide); (case hown => exact HO1.out _); (case hsrc => exact src_lit (e := 5) (g := w1.heap.size) (m := 3) (c := 3) #[.int .u8 ver, .int .u8 (logE rs), .int .u8 rg] (0, 0) (nB w1 _) rfl); (case h1 => exact ints_one .u8 [_, _, _]); (case h63 => exact hn1); (case hbytes => omega); (case hbase => exact HBS.out _); (intro v2 w2 hown2 hgrow2); (have hS := KG.out _ _ hgrow2); (obtain ⟨a2, cap2, rfl⟩ := ownsRow_slice hown2)))
  have B2 := hid (BF.out _ _ hgrow2)
  go_wp2_with fail
  go_ret
  refine ⟨a2, cap2, rfl, ⟨?_, HBY.out.app ?_⟩, B2.out⟩
  · have hcells : u8s (bs ++ beN id 4) ++ [.int .u8 ver, .int .u8 (logE rs), .int .u8 rg] = u8s (bs ++ layE ⟨id, ver, rs, rg⟩) := by
      unfold layE
      simp only
      rw [show ver % 256 = ver by omega, show rg % 256 = rg by omega]
      simp [u8s]
    rw [hcells] at hown2
    rw [List.length_append, layE_length, HL.out]
    exact Own8w hown2 (by omega)
  · exact layE_byte HF.out
theorem layout8z (v : Value) (B n m : Nat) (bs : List Int) (l : Lay) (w : World) (h : Own8 B w v bs) (hl : bs.length = n) (hn : n <= 1000) (hf : formB l = true \/ l = lay0) (hm : m = n + 7) :
    Calls prog 233 #[v, .agg #[.int .i64 l.id, .int .i64 l.ver, .int .i64 l.rs, .int .i64 l.rg]] w fun e w' => ∃ a' c', e = .returned (.slice a' m c') /\ Own8 w.heap.size w' (.slice a' m c') (bs ++ layE l) /\ Below w.heap.size w w' := by
  subst hm
  exact layout8 v B n bs l w h hl hn hf
end Go.Proofs.YtbikkioipamlmaaGreatDoor
