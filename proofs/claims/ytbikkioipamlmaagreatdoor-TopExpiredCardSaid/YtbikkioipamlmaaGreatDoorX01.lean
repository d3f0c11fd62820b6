/-
  Laws and contracts for the statement TopExpired.
-/
import Derived.Test.YtbikkioipamlmaaGreatDoorRows
import Derived.WalkKit
import Derived.ProofKit
import Derived.OpenShut
import Derived.ShutString
import Derived.ChangeOld
import Derived.Below
import Derived.Lib.Hide
import Derived.Lib.SmallJoins
import Derived.Deep.Quiet
import Derived.BigQuiet
import Derived.Lib.SliceRun
import Derived.Laws.BytesArg
import Derived.Laws.ResultCell
import Derived.Laws.Rows
import Derived.KernelRfl
open Go.Lib (hid)
open Go.Proofs.Tryz (prog)
set_option linter.unusedVariables false
set_option linter.unusedSimpArgs false
set_option maxRecDepth 100000
set_option maxHeartbeats 20000000
namespace Go.Proofs.YtbikkioipamlmaaGreatDoor
open Go.RowKit
theorem own : ownKnob prog.godebug = none := by kernel_rfl
theorem laidOut : laidOutB prog = true := by kernel_rfl
def Elems (k : IntKind) (w : World) (a : Option Addr) (len : Nat) (zs : List Int) : Prop :=
  ∀ i, i < len -> ∃ b off, a = some ⟨b, off, none⟩ /\ b < w.heap.size /\ w.cell? ⟨b, off + i, none⟩ = some (.int k (zs[i]?.getD 0))
theorem Elems.below {k : IntKind} {w w' : World} {B : Nat} {a : Option Addr} {len : Nat} {zs : List Int} (h : Elems k w a len zs) (hb : Below B w w') (hB : w.heap.size <= B) : Elems k w' a len zs := by
  intro i hi
  obtain ⟨b, off, ha, hlt, hc⟩ := h i hi
  refine ⟨b, off, ha, Nat.lt_of_lt_of_le hlt hb.size, ?_⟩
  rw [hb.cell (by show b < B; omega)]; exact hc
end Go.Proofs.YtbikkioipamlmaaGreatDoor
namespace Go.Proofs.YtbikkioipamlmaaGreatDoor
def Byte8 (bs : List Int) : Prop := ∀ z ∈ bs, 0 <= z /\ z < 256
theorem Byte8.nil : Byte8 [] := fun z h => by simp at h
theorem Byte8.app {a b : List Int} (ha : Byte8 a) (hb : Byte8 b) : Byte8 (a ++ b) := fun z h => (List.mem_append.1 h).elim (ha z) (hb z)
theorem Byte8.cons {x : Int} {b : List Int} (h0 : 0 <= x) (h1 : x < 256) (hb : Byte8 b) : Byte8 (x :: b) := fun z h => (List.mem_cons.1 h).elim (fun e => e ▸ ⟨h0, h1⟩) (hb z)
theorem Byte8.take {a : List Int} (n : Nat) (ha : Byte8 a) : Byte8 (a.take n) := fun z h => ha z (List.mem_of_mem_take h)
theorem Byte8.drop {a : List Int} (n : Nat) (ha : Byte8 a) : Byte8 (a.drop n) := fun z h => ha z (List.mem_of_mem_drop h)
theorem Byte8.zeros (n : Nat) : Byte8 (List.replicate n 0) := fun z h => by obtain ⟨_, rfl⟩ := List.mem_replicate.1 h; omega
def beN (n : Int) : Nat -> List Int
  | 0 => []
  | w + 1 => beN (n / 256) w ++ [n % 256]
theorem bL (n : Int) (w : Nat) : (beN n w).length = w := by
  induction w generalizing n with
  | zero => rfl
  | succ w ih => simp [beN, ih]
theorem beN_byte (n : Int) (w : Nat) : Byte8 (beN n w) := by
  induction w generalizing n with
  | zero => exact .nil
  | succ w ih => exact (ih _).app (.cons (Int.emod_nonneg _ (by omega)) (Int.emod_lt_of_pos _ (by omega)) .nil)
theorem beN_cons (n : Int) (w : Nat) : beN n (w + 1) = n / 256 ^ w % 256 :: beN n w := by
  induction w generalizing n with
  | zero => simp [beN]
  | succ w ih =>
    have e : n / 256 / 256 ^ w = n / 256 ^ (w + 1) := by
      rw [Int.ediv_ediv_of_nonneg (by omega)]
      rw [show (256 : Int) * 256 ^ w = 256 ^ (w + 1) from by rw [Int.pow_succ, Int.mul_comm]]
    rw [beN, ih (n / 256), e]
    show _ :: (beN (n / 256) w ++ [n % 256]) = _
    rfl
theorem beN_take (n : Int) (w k : Nat) (h : k < w) : (beN n w).take (k + 1) = (beN n w).take k ++ [n / 256 ^ (w - 1 - k) % 256] := by
  induction w generalizing k with
  | zero => omega
  | succ w ih =>
    rw [beN_cons]
    cases k with
    | zero => simp
    | succ k =>
      have := ih k (by omega)
      rw [List.take_succ_cons, List.take_succ_cons, this, List.cons_append, show w + 1 - 1 - (k + 1) = w - 1 - k from by omega]
def beV (bs : List Int) : Int := bs.foldl (fun a x => a * 256 + x) 0
theorem beV_snoc (bs : List Int) (x : Int) : beV (bs ++ [x]) = beV bs * 256 + x := by simp [beV]
theorem beV_beN (n : Int) (w : Nat) : beV (beN n w) = n % 256 ^ w := by
  induction w generalizing n with
  | zero => simp [beN, beV]
  | succ w ih =>
    rw [beN, beV_snoc, ih, Int.pow_succ]
    have h1 := Int.emod_add_mul_ediv n 256
    have hM : (0 : Int) < 256 ^ w := Int.pow_pos (by omega)
    generalize (256 : Int) ^ w = M at *
    have h3 := Int.emod_add_mul_ediv (n / 256) M
    have h4 := Int.emod_nonneg (n / 256) (show M ≠ 0 by omega)
    have h5 := Int.emod_lt_of_pos (n / 256) hM
    have h2 : n = (n / 256 % M * 256 + n % 256) + (M * 256) * (n / 256 / M) := by
      rw [Int.mul_assoc, Int.mul_comm 256, <- Int.mul_assoc]
      omega
    have h6 := congrArg (fun z => z % (M * 256)) h2
    rw [h6, Int.add_mul_emod_self_left]
    exact (Int.emod_eq_of_lt (by omega) (by omega)).symm
theorem beV_self {n : Int} {w : Nat} (h0 : 0 <= n) (h1 : n < 256 ^ w) : beV (beN n w) = n := by rw [beV_beN, Int.emod_eq_of_lt h0 h1]
theorem beV_rng {bs : List Int} (h : Byte8 bs) : 0 <= beV bs /\ beV bs < 256 ^ bs.length := by
  obtain ⟨n, hn⟩ : ∃ n, bs.length = n := ⟨_, rfl⟩
  induction n generalizing bs with
  | zero => obtain rfl := List.eq_nil_of_length_eq_zero hn; simp [beV]
  | succ n ih =>
    rcases List.eq_nil_or_concat bs with rfl | ⟨l, x, rfl⟩
    · simp at hn
    · simp only [List.concat_eq_append] at h hn ⊢
      simp only [List.length_append, List.length_singleton] at hn
      obtain ⟨h0, h1⟩ := ih (fun z hz => h z (List.mem_append.2 (.inl hz))) (by omega)
      obtain ⟨x0, x1⟩ := h x (by simp)
      rw [beV_snoc, List.length_append, List.length_singleton, Int.pow_succ]
      omega
end Go.Proofs.YtbikkioipamlmaaGreatDoor
namespace Go.Proofs.YtbikkioipamlmaaGreatDoor
open Go.RowKit
def Src (w : World) (size : Nat) (x : Value) (m : Nat) (news : List Value) : Prop :=
  news.length = m * size /\ ((x = .slice none 0 0 /\ m = 0) \/ ∃ ad c, x = .slice (some ad) m c /\ ∀ j u, news[j]? = some u -> w.cell? (ad.add j) = some u)
theorem run_app {P : Program} {w : World} (base : Nat) (t ty e : TypeId) (i : TypeInfo) (z : Value) (size bytes : Nat) (ht : P.underlying t = some (.slice e)) (hi : P.info? e = some i) (hz : i.zero = some z)
    (hsize : i.size = size) (hby : i.bytes = bytes) (hzs : z.cells.size = size) (hsz : 0 < size)
    (v : Value) (n : Nat) (xs : List Value) (hown : w.ownsRow base e size v n xs)
    (x : Value) (m : Nat) (news : List Value) (hs : Src w size x m news) (h1 : ∀ u ∈ news, u.oneCell' = true)
    (h63 : n + m <= maxLen) (hbytes : (n + m) * bytes <= 140737488355328) (hbase : base <= w.heap.size) :
    ∃ v' w', (Builtin.append_ #[t, t] ty #[v, x]).run P w = .ok v' w' /\ w'.ownsRow base e size v' (n + m) (xs ++ news) /\ w.grownBy w' v.ownBlock := by
  obtain ⟨hl, hs⟩ := hs
  rcases hs with ⟨rfl, rfl⟩ | ⟨ad, c, rfl, hc⟩
  · have hn : news = [] := by cases news <;> simp_all
    subst hn
    refine ⟨v, w, run_append_owned_none w base t ty e i size ht hi v n xs hown, by simpa using hown, World.grownBy.refl _ _⟩
  · obtain ⟨v', w', hr, h2, h3, h4⟩ := run_append_own (P := P) w base t ty e i z size bytes ht hi hz hsize hby hzs hsz v n xs hown ad m c news hl hc h1 h63 hbytes hbase
    exact ⟨v', w', hr, h2, h3⟩
theorem wpList_app {P : Program} {w : World} {ops : Array Oper} {rest : List Oper} {o : Oper} {a : Act} {Q : Exit -> Act -> World -> Prop} (hgd : o.guard = none) (s x : Operand) (t : TypeId)
    (ho : o.op = .call { callee := .builtin .append, args := #[s, x], argTypes := #[t, t] })
    (base : Nat) (e : TypeId) (i : TypeInfo) (z : Value) (size bytes : Nat) (ht : P.underlying t = some (.slice e)) (hi : P.info? e = some i) (hz : i.zero = some z)
    (hsize : i.size = size) (hby : i.bytes = bytes) (hzs : z.cells.size = size) (hsz : 0 < size)
    (v : Value) (n : Nat) (xs : List Value) (hs : a.eval s = v) (hown : w.ownsRow base e size v n xs)
    (xv : Value) (m : Nat) (news : List Value) (hx : a.eval x = xv) (hsrc : Src w size xv m news) (h1 : ∀ u ∈ news, u.oneCell' = true)
    (h63 : n + m <= maxLen) (hbytes : (n + m) * bytes <= 140737488355328) (hbase : base <= w.heap.size)
    (h : ∀ v' w', w'.ownsRow base e size v' (n + m) (xs ++ news) -> w.grownBy w' v.ownBlock -> wpList P ops Q rest (a.put o.dst v') w') : wpList P ops Q (o :: rest) a w :=
  wpList_plain hgd fun _ hK => by
    obtain ⟨v', w', hr, h2, h3⟩ := run_app (P := P) (w := w) base t o.type e i z size bytes ht hi hz hsize hby hzs hsz v n xs hown xv m news hsrc h1 h63 hbytes hbase
    unfold Oper.wp execOp
    simp only [ho, resolve, invoke, builtin, Sem.run_bind, Sem.run_pure, Result.andThen_ok, List.map_toArray, List.map_cons, List.map_nil, hs, hx, hr]
    exact hK _ _ (h v' w' h2 h3)
theorem ownsRow_elems {w : World} {base : Nat} {e : TypeId} {v : Value} {n : Nat} {k : IntKind} {zs : List Int} (h : w.ownsRow base e 1 v n (zs.map (Value.int k))) :
    ∃ a cap, v = .slice a n cap /\ Elems k w a n zs /\ n <= cap /\ cap <= maxLen := by
  obtain ⟨hl, hv⟩ := id h
  rcases hv with ⟨rfl, rfl⟩ | ⟨g, cap, cur, rfl, hb, hg, hn, hm, hc, ht⟩
  · exact ⟨none, 0, rfl, fun i hi => by omega, Nat.le_refl _, by unfold maxLen; omega⟩
  · refine ⟨_, cap, rfl, fun i hi => ⟨g, 0, rfl, (Array.getElem?_eq_some_iff.1 hg).1, ?_⟩, hn, hm⟩
    rw [show 0 + i = i from by omega, h.cellAt i (by omega)]
    have hlen : zs.length = n := by simpa using hl
    simp [List.getElem?_map, List.getElem?_eq_getElem (show i < zs.length by omega)]
theorem Elems.src {w : World} {k : IntKind} {a : Option Addr} {len cap : Nat} {zs : List Int} (h : Elems k w a len zs) (hl : len <= zs.length) (h0 : a = none -> len = 0 /\ cap = 0) : Src w 1 (.slice a len cap) len ((zs.take len).map (Value.int k)) := by
  refine ⟨by simp; omega, ?_⟩
  cases a with
  | none => obtain ⟨rfl, rfl⟩ := h0 rfl; exact .inl ⟨rfl, rfl⟩
  | some ad =>
    refine .inr ⟨ad, cap, rfl, fun j u hu => ?_⟩
    have hj : j < len := by
      rcases Nat.lt_or_ge j len with hj | hj
      · exact hj
      · rw [List.getElem?_eq_none (by simp; omega)] at hu; cases hu
    obtain ⟨b, off, ha, _, hc⟩ := h j hj
    simp only [Option.some.injEq] at ha
    subst ha
    rw [Go.WideShapes.add_plain]
    rw [hc]
    simp [List.getElem?_map, hj, List.getElem?_eq_getElem (show j < zs.length by omega)] at hu ⊢
    exact hu
theorem src_lit {w : World} {e : TypeId} {size : Nat} {g m c : Nat} (cs : Array Value) (fr : Nat × Nat) (hg : w.heap[g]? = some (.cells cs e fr)) (hs : cs.size = m * size) : Src w size (.slice (some ⟨g, 0, none⟩) m c) m cs.toList := by
  refine ⟨by simpa using hs, .inr ⟨_, c, rfl, fun j u hu => ?_⟩⟩
  rw [Go.WideShapes.add_plain, Nat.zero_add, cell_of_row w g j cs e fr hg]
  simpa using hu
def Stop (p : Prop) : Prop := p
theorem Stop.out {p : Prop} (h : Stop p) : p := h
theorem Stop.of {p : Prop} (h : p) : Stop p := h
structure Ext (B : Nat) (w : World) where
  val : World
  bel : Below B w val
theorem wp_region_ext {P : Program} (B : Nat) {id : Nat} {Q : Exit -> Act -> World -> Prop} {a : Act} {w : World} {l : List Oper} (hm : P.follows .mixedOrders = true) (hB : Region.lexB .any l.toArray = true)
    (h : wpQuiet P l.toArray (fun w' => ∃ x : Ext B w, w' = x.val) (fun a' => ∀ w', (∃ x : Ext B w, w' = x.val) -> Q .normal a' w') l a) : (Code.region id l.toArray true).wp P Q a w :=
  wp_region_quiet (C := fun w' => ∃ x : Ext B w, w' = x.val) hm hB ⟨⟨_, (Below.refl B w).drew⟩, rfl⟩ (by simpa using h)
theorem Calls.ext {P : Program} {f : FuncId} {args : Array Value} {B : Nat} {w : World} {x : Ext B w} {v : Value} (hB : B <= w.heap.size)
    (h : Calls P f args x.val fun e w' => e = .returned v /\ Below x.val.heap.size x.val w') : Calls P f args x.val fun e w'' => e = .returned v /\ ∃ y : Ext B w, w'' = y.val :=
  h.mono fun _ w' ⟨he, hb⟩ => ⟨he, ⟨w', x.bel.trans (hb.mono (Nat.le_trans hB x.bel.size))⟩, rfl⟩
theorem Ext.cell {B : Nat} {w : World} (x : Ext B w) (b o : Nat) (h : b < B) : x.val.cell? ⟨b, o, none⟩ = w.cell? ⟨b, o, none⟩ := x.bel.cell (p := ⟨b, o, none⟩) h
theorem bcell {B : Nat} {W W' : World} (hb : Below B W W') : (∀ b o, b < B -> W'.cell? ⟨b, o, none⟩ = W.cell? ⟨b, o, none⟩) /\ (∀ b o, b < B -> W'.frozen? ⟨b, o, none⟩ = W.frozen? ⟨b, o, none⟩) :=
  ⟨fun b o h => hb.cell (p := ⟨b, o, none⟩) h, fun b o h => hb.frozen (p := ⟨b, o, none⟩) h⟩
theorem bel1 {w w' : World} {o : Obj} (h : Below (w.alloc o).heap.size (w.alloc o) w') : Below w.heap.size w w' :=
  ((Below.refl _ _).alloc (Nat.le_refl _) _).trans (h.mono (by simp))
theorem bel2 {w w' : World} {o o' : Obj} (h : Below ((w.alloc o).alloc o').heap.size ((w.alloc o).alloc o') w') : Below w.heap.size w w' := bel1 (bel1 h)
theorem bel3 {w w' : World} {o o' o'' : Obj} (h : Below (((w.alloc o).alloc o').alloc o'').heap.size (((w.alloc o).alloc o').alloc o'') w') : Below w.heap.size w w' := bel1 (bel2 h)
theorem tB {a b c : World} (h : Below a.heap.size a b) (k : Below b.heap.size b c) : Below a.heap.size a c := h.trans (k.mono h.size)
theorem ints_one (k : IntKind) (zs : List Int) : ∀ u ∈ zs.map (Value.int k), u.oneCell' = true := ints_oneCell k zs
structure Fr (S : Nat -> Prop) (w w' : World) : Prop where
  os : w'.os = w.os
  tape : w'.tape = w.tape
  output : w'.output = w.output
  size : w.heap.size <= w'.heap.size
  block : ∀ k, k < w.heap.size -> ¬ S k -> w'.heap[k]? = w.heap[k]?
theorem Fr.refl (S : Nat -> Prop) (w : World) : Fr S w w := ⟨rfl, rfl, rfl, Nat.le_refl _, fun _ _ _ => rfl⟩
theorem Fr.trans {S T : Nat -> Prop} {a b c : World} (h : Fr S a b) (k : Fr T b c) (hT : ∀ j, T j -> S j \/ a.heap.size <= j) : Fr S a c :=
  ⟨k.os.trans h.os, k.tape.trans h.tape, k.output.trans h.output, Nat.le_trans h.size k.size, fun j hj hne =>
    (k.block j (Nat.lt_of_lt_of_le hj h.size) (fun ht => (hT j ht).elim hne (by omega))).trans (h.block j hj hne)⟩
theorem Fr.mono {S T : Nat -> Prop} {a b : World} (h : Fr S a b) (hT : ∀ j, j < a.heap.size -> S j -> T j) : Fr T a b :=
  ⟨h.os, h.tape, h.output, h.size, fun j hj hne => h.block j hj (fun hs => hne (hT j hj hs))⟩
theorem Fr.of_below {S : Nat -> Prop} {w w' : World} (h : Below w.heap.size w w') : Fr S w w' := ⟨h.os, h.tape, h.output, h.size, fun k hk _ => h.block k hk⟩
theorem Fr.of_grown {S : Nat -> Prop} {w w' : World} {r : Option Nat} (h : w.grownBy w' r) (hr : ∀ k, r = some k -> S k) : Fr S w w' :=
  ⟨h.os, h.tape, h.output, h.size, fun k hk hne => h.block k hk (fun e => hne (hr k e.symm))⟩
theorem Fr.below {S : Nat -> Prop} {B : Nat} {a w w' : World} (hb : Below B a w) (h : Fr S w w') (hB : B <= w.heap.size) (hS : ∀ k, S k -> B <= k) : Below B a w' :=
  hb.trans ⟨h.os, h.tape, h.output, h.size, fun k hk => h.block k (by omega) (fun hs => by have := hS k hs; omega)⟩
theorem Fr.drew {S : Nat -> Prop} {w w' : World} (h : Fr S w w') : Fr S w w'.drew := ⟨h.os, h.tape, h.output, h.size, h.block⟩
theorem Fr.drewN {S : Nat -> Prop} {w w' : World} (h : Fr S w w') (n : Nat) : Fr S w (w'.drewN n) := ⟨h.os, h.tape, h.output, h.size, h.block⟩
theorem Fr.alloc {S : Nat -> Prop} {w w' : World} (h : Fr S w w') (o : Obj) : Fr S w (w'.alloc o) :=
  h.trans (T := fun _ => False) (.of_below ((Below.refl _ _).alloc (Nat.le_refl _) _)) (fun _ f => f.elim)
theorem own_same {w w' : World} {base : Nat} {e : TypeId} {size : Nat} {v : Value} {n : Nat} {xs : List Value} (h : w.ownsRow base e size v n xs) (hb : ∀ g, v.ownBlock = some g -> w'.heap[g]? = w.heap[g]?) : w'.ownsRow base e size v n xs := by
  refine ⟨h.1, ?_⟩
  rcases h.2 with h2 | ⟨g, cap, cur, hv, hg, hh, r⟩
  · exact .inl h2
  · refine .inr ⟨g, cap, cur, hv, hg, ?_, r⟩
    rw [hb g (by rw [hv]; rfl)]; exact hh
theorem own_fr {S : Nat -> Prop} {w w' : World} {base : Nat} {e : TypeId} {size : Nat} {v : Value} {n : Nat} {xs : List Value} (h : w.ownsRow base e size v n xs) (hf : Fr S w w') (hS : ∀ g, v.ownBlock = some g -> ¬ S g) : w'.ownsRow base e size v n xs :=
  own_same h (fun g hg => hf.block g (h.lt g hg).2 (hS g hg))
theorem qB {w : World} {b i : Nat} {cs : Array Value} {t : TypeId} {fr : Nat × Nat} (h : w.heap[b]? = some (.cells cs t fr)) : w.cell? ⟨b, i, none⟩ = cs[i]? := cell_of_row w b i cs t fr h
theorem zB {w : World} {b i : Nat} {cs : Array Value} {t : TypeId} (h : w.heap[b]? = some (.cells cs t (0, 0))) : w.frozen? ⟨b, i, none⟩ = false := by
  unfold World.frozen?
  rw [h]
  simp
theorem lB {w : World} {b : Nat} {o : Obj} (h : w.heap[b]? = some o) : b < w.heap.size := (Array.getElem?_eq_some_iff.1 h).1
theorem uB {w : World} {b i : Nat} {cs : Array Value} {t : TypeId} (h : w.heap[b]? = some (.cells cs t (0, 0))) (v : Value) : (w.setCell ⟨b, i, none⟩ v).heap[b]? = some (.cells (cs.setIfInBounds i v) t (0, 0)) :=
  heap_setCell_same w b i cs t v h
def Vals (w : World) (a : Option Addr) (vs : List Value) : Prop :=
  ∀ i, i < vs.length -> ∃ b off, a = some ⟨b, off, none⟩ /\ b < w.heap.size /\ w.cell? ⟨b, off + i, none⟩ = vs[i]?
theorem Vals.at {w : World} {a : Option Addr} {vs : List Value} (h : Vals w a vs) (i : Nat) {v : Value} (hv : vs[i]? = some v) : ∃ b off, a = some ⟨b, off, none⟩ /\ b < w.heap.size /\ w.cell? ⟨b, off + i, none⟩ = some v := by
  obtain ⟨b, off, h1, h2, h3⟩ := h i (List.getElem?_eq_some_iff.1 hv).1
  exact ⟨b, off, h1, h2, h3.trans hv⟩
theorem Vals.below {w w' : World} {B : Nat} {a : Option Addr} {vs : List Value} (h : Vals w a vs) (hb : Below B w w') (hB : w.heap.size <= B) : Vals w' a vs := by
  intro i hi
  obtain ⟨b, off, ha, hlt, hc⟩ := h i hi
  refine ⟨b, off, ha, Nat.lt_of_lt_of_le hlt hb.size, ?_⟩
  rw [hb.cell (by show b < B; omega)]; exact hc
theorem ownsRow_vals {w : World} {base : Nat} {e : TypeId} {size : Nat} {v : Value} {n : Nat} {vs : List Value} (h : w.ownsRow base e size v n vs) :
    ∃ a cap, v = .slice a n cap /\ Vals w a vs /\ n <= cap /\ cap <= maxLen /\ vs.length = n * size /\ (a = none -> n = 0 /\ cap = 0) /\ ∀ b off, a = some ⟨b, off, none⟩ -> base <= b /\ b < w.heap.size /\ v.ownBlock = some b := by
  obtain ⟨hl, hv⟩ := id h
  rcases hv with ⟨rfl, rfl⟩ | ⟨g, cap, cur, rfl, hb, hg, hn, hm, hc, ht⟩
  · refine ⟨none, 0, rfl, fun i hi => ?_, Nat.le_refl _, by unfold maxLen; omega, hl, fun _ => ⟨rfl, rfl⟩, fun b off hh => by cases hh⟩
    simp at hl
    subst hl
    simp at hi
  · refine ⟨_, cap, rfl, fun i hi => ⟨g, 0, rfl, (Array.getElem?_eq_some_iff.1 hg).1, ?_⟩, hn, hm, hl, (fun hh => by cases hh), fun b off hh => ?_⟩
    · rw [show 0 + i = i from by omega, h.cellAt i (by omega)]
    · cases hh; exact ⟨hb, (Array.getElem?_eq_some_iff.1 hg).1, rfl⟩
theorem Vals.src {w : World} {a : Option Addr} {m cap size : Nat} {vs : List Value} (h : Vals w a vs) (hl : vs.length = m * size) (h0 : a = none -> m = 0 /\ cap = 0) : Src w size (.slice a m cap) m vs := by
  refine ⟨hl, ?_⟩
  cases a with
  | none => obtain ⟨rfl, rfl⟩ := h0 rfl; exact .inl ⟨rfl, rfl⟩
  | some ad =>
    refine .inr ⟨ad, cap, rfl, fun j u hu => ?_⟩
    obtain ⟨b, off, ha, _, hc⟩ := h.at j hu
    simp only [Option.some.injEq] at ha
    subst ha
    rw [Go.WideShapes.add_plain]
    exact hc
abbrev u8s (bs : List Int) : List Value := bs.map (Value.int .u8)
theorem u8info : (prog.info? 5).map (fun i => (i.zero, i.size, i.bytes)) = some (some (.int .u8 0), 1, 1) := by kernel_rfl
structure Own8 (B : Nat) (w : World) (v : Value) (bs : List Int) : Prop where
  own : w.ownsRow B 5 1 v bs.length (u8s bs)
  byt : Byte8 bs
structure Rd8 (w : World) (a : Option Addr) (n cap : Nat) (bs : List Int) : Prop where
  len : bs.length = n
  el : Elems .u8 w a n bs
  cap_le : n <= cap /\ cap <= maxLen
  nil : a = none -> n = 0 /\ cap = 0
  byt : Byte8 bs
theorem Own8.rd {B : Nat} {w : World} {v : Value} {bs : List Int} (h : Own8 B w v bs) : ∃ a cap, v = .slice a bs.length cap /\ Rd8 w a bs.length cap bs := by
  obtain ⟨a, cap, rfl, h1, h2, h3⟩ := ownsRow_elems h.own
  refine ⟨a, cap, rfl, rfl, h1, ⟨h2, h3⟩, fun e => ?_, h.byt⟩
  subst e
  rcases h.own.2 with ⟨h4, h5⟩ | ⟨g, c, cur, h4, _⟩
  · injection h4 with h6 h7 h8
    exact ⟨h7, h8⟩
  · cases h4
theorem Rd8.below {w w' : World} {B : Nat} {a : Option Addr} {n cap : Nat} {bs : List Int} (h : Rd8 w a n cap bs) (hb : Below B w w') (hB : w.heap.size <= B) : Rd8 w' a n cap bs := ⟨h.len, h.el.below hb hB, h.cap_le, h.nil, h.byt⟩
theorem Rd8.src {w : World} {a : Option Addr} {n cap : Nat} {bs : List Int} (h : Rd8 w a n cap bs) : Src w 1 (.slice a n cap) n (u8s bs) := by
  have := h.el.src (cap := cap) (by rw [h.len]; exact Nat.le_refl _) h.nil
  rwa [List.take_of_length_le (by rw [h.len]; exact Nat.le_refl _)] at this
theorem Own8.below {B : Nat} {w w' : World} {v : Value} {bs : List Int} (h : Own8 B w v bs) (hb : Below w.heap.size w w') : Own8 B w' v bs := ⟨own_same h.own (fun g hg => hb.block g (h.own.lt g hg).2), h.byt⟩
theorem Own8.mono {B B' : Nat} {w : World} {v : Value} {bs : List Int} (h : Own8 B w v bs) (hB : B' <= B) : Own8 B' w v bs := by
  refine ⟨⟨h.own.1, ?_⟩, h.byt⟩
  rcases h.own.2 with h2 | ⟨g, cap, cur, hv, hg, r⟩
  · exact .inl h2
  · exact .inr ⟨g, cap, cur, hv, by omega, r⟩
theorem Own8.nil (B : Nat) (w : World) : Own8 B w (.slice none 0 0) [] := ⟨World.ownsRow_nil _ _ _ _, .nil⟩
theorem Own8.app {B : Nat} {w : World} {v : Value} {a b : List Int} {n : Nat} (h : w.ownsRow B 5 1 v (a.length + n) (u8s a ++ u8s b)) (hn : b.length = n) (ha : Byte8 a) (hb : Byte8 b) : Own8 B w v (a ++ b) := by
  subst hn
  refine ⟨?_, ha.app hb⟩
  rw [List.length_append, u8s, List.map_append]; exact h
def Ret8 (w : World) (bs : List Int) (e : Ending) (w' : World) : Prop := ∃ v, e = .returned v /\ Own8 w.heap.size w' v bs /\ Below w.heap.size w w'
theorem own_lit0 (w : World) (e : TypeId) : (w.alloc (.cells #[] e)).ownsRow w.heap.size e 1 (.slice (some ⟨w.heap.size, 0, none⟩) 0 0) 0 [] :=
  ⟨rfl, .inr ⟨w.heap.size, 0, #[], rfl, Nat.le_refl _, by show (w.heap.push _)[w.heap.size]? = _; simp, Nat.le_refl _, by unfold maxLen; omega, rfl, rfl⟩⟩
theorem bel_grown {w w' : World} {o : Obj} (h : (w.alloc o).grownBy w' (some w.heap.size)) : Below w.heap.size w w' :=
  ((Below.refl _ _).alloc (Nat.le_refl _) o).trans ⟨h.os, h.tape, h.output, Nat.le_trans (by simp) h.size, fun k hk => h.block k (by simp; omega) (fun e => by cases e; omega)⟩
theorem bel_app {w wr w1 : World} {o : Obj} {e : TypeId} {s n : Nat} {v : Value} {xs : List Value} (hb : Below w.heap.size w wr) (ho : wr.ownsRow w.heap.size e s v n xs) (hg : (wr.alloc o).grownBy w1 v.ownBlock) : Below w.heap.size w w1 := by
  have hs := hb.size
  refine (hb.alloc (o := o) hs).trans ⟨hg.os, hg.tape, hg.output, Nat.le_trans (by simp) hg.size, fun k hk => hg.block k (by simp; omega) (fun e => ?_)⟩
  have := (ho.lt k e.symm).1
  omega
theorem bel_grow {w wr w1 : World} {e : TypeId} {s n : Nat} {v : Value} {xs : List Value} (hb : Below w.heap.size w wr) (ho : wr.ownsRow w.heap.size e s v n xs) (hg : wr.grownBy w1 v.ownBlock) : Below w.heap.size w w1 := by
  have hs := hb.size
  refine hb.trans ⟨hg.os, hg.tape, hg.output, hg.size, fun k hk => hg.block k (by omega) (fun e => ?_)⟩
  have := (ho.lt k e.symm).1
  omega
theorem clone8 (a : Option Addr) (n cap : Nat) (bs : List Int) (w : World) (h : Rd8 w a n cap bs) (hn : n <= 1099511627776) : Calls prog 90 #[.slice a n cap] w (Ret8 w bs) := by
  have qT : ∀ (w : World) (a : Option Addr) (n c n' c' : Nat), (binOp .eql 33 (.slice a n c) (.slice none n' c')).run prog w = .ok (.bool a.isNone) w := fun w a n c n' c' => Lib.run_eql_slice_nil w _ _ a n c n' c' Tryz.underlying33
  have H := hid h
  obtain ⟨i0, hi, hz0, hz1, hz2⟩ := info_parts u8info
  have I1 := hid hi; have I2 := hid hz0; have I3 := hid hz1; have I4 := hid hz2
  clear h hi hz0 hz1 hz2
  cases a with
  | none =>
    obtain ⟨rfl, rfl⟩ := H.out.nil rfl
    go_enter Tryz.func90, Tryz.ntmps90
    go_wp2_with fail
    go_ret
    have : bs = [] := List.eq_nil_of_length_eq_zero H.out.len
    subst this
    exact ⟨_, rfl, .nil _ _, Below.refl _ _⟩
  | some ad =>
    go_enter Tryz.func90, Tryz.ntmps90
    go_wp2_with (at_builtin; refine Stop.out ?_)
    refine Stop.of (wpList_app rfl _ _ 33 rfl w.heap.size 5 i0 (.int .u8 0) 1 1 Tryz.underlying33 I1.out I2.out I3.out I4.out rfl (by decide) _ 0 [] rfl (own_lit0 w _) _ n (u8s bs) rfl
      (H.out.below (B := w.heap.size) ((Below.refl _ _).alloc (Nat.le_refl _) _) (Nat.le_refl _)).src (ints_one _ _) (by unfold maxLen; omega) (by omega) (by simp) ?_)
    intro v' w1 ho hg
    go_wp2_with fail
    go_ret
    have hl := H.out.len
    subst hl
    exact ⟨_, rfl, ⟨by simpa using ho, H.out.byt⟩, bel_grown hg⟩
theorem conv_bytes {w : World} {a : Option Addr} {n cap : Nat} {bs : List Int} (h : Rd8 w a n cap bs) : (convert 33 9 (.slice a n cap)).run prog w = .ok (.string (strOfNums bs)) w := by
  rcases Nat.eq_zero_or_pos n with rfl | hn
  · obtain rfl : bs = [] := List.eq_nil_of_length_eq_zero h.len
    rw [run_convert_bytes_string (P := prog) w 33 9 5 a 0 cap Tryz.underlying33 Tryz.underlying5 Tryz.underlying9]
    cases a <;> simp [Conv.bytesToString, loadCells]
    all_goals rfl
  · obtain ⟨b, off, rfl, _, _⟩ := h.el 0 hn
    refine run_convert_bytes_arg (P := prog) w 33 5 Tryz.underlying33 Tryz.underlying5 b off n cap bs h.len (fun i hi => ?_) 9 Tryz.underlying9
    obtain ⟨b', off', e, _, hc⟩ := h.el i hi
    cases e
    rw [hc]; simp [List.getD]
theorem strOfNums_inj {a b : List Int} (ha : Byte8 a) (hb : Byte8 b) (h : strOfNums a = strOfNums b) : a = b := by
  have h1 : a.map (fun n : Int => UInt8.ofNat n.toNat) = b.map (fun n : Int => UInt8.ofNat n.toNat) := by rw [<- strOfNums_data, <- strOfNums_data, h]
  clear h
  induction a generalizing b with
  | nil => cases b with
    | nil => rfl
    | cons y b => simp at h1
  | cons x a ih => cases b with
    | nil => simp at h1
    | cons y b =>
      simp only [List.map_cons, List.cons.injEq] at h1
      obtain ⟨x0, x1⟩ := ha x (by simp)
      obtain ⟨y0, y1⟩ := hb y (by simp)
      have h2 := congrArg UInt8.toNat h1.1
      simp only [UInt8.toNat_ofNat'] at h2
      have : x = y := by omega
      rw [this, ih (fun z hz => ha z (by simp [hz])) (fun z hz => hb z (by simp [hz])) h1.2]
theorem strOfNums_eq {a b : List Int} (ha : Byte8 a) (hb : Byte8 b) : ((strOfNums a).toList == (strOfNums b).toList) = decide (a = b) := by
  by_cases h : a = b
  · rw [h]; simp
  · simp only [h, decide_false, beq_eq_false_iff_ne, ne_eq]
    exact fun e => h (strOfNums_inj ha hb (by
      have h2 : (strOfNums a).data.toList = (strOfNums b).data.toList := by rw [<- ByteArray.toList_eq, <- ByteArray.toList_eq, e]
      exact WideShapes.bytes_inj h2))
theorem equal8 (a b : Option Addr) (n c m d : Nat) (xs ys : List Int) (w : World) (h1 : Rd8 w a n c xs) (h2 : Rd8 w b m d ys) : Calls prog 162 #[.slice a n c, .slice b m d] w fun e w' => e = .returned (.bool (decide (xs = ys))) /\ w = w' := by
  have c1 := conv_bytes h1
  have c2 := conv_bytes h2
  have he := strOfNums_eq h1.byt h2.byt
  clear h1 h2
  go_enter Tryz.func162, Tryz.ntmps162
  go_wp2_with fail
  go_ret
  exact ⟨rfl, rfl⟩
theorem ret_bl {a b : Bool} (h : a = b) : Ending.returned (.bool a) = .returned (.bool b) := by rw [h]
theorem rd_lit {w : World} {g n c : Nat} {e : TypeId} {fr : Nat × Nat} {cs : Array Value} {zs : List Int} (h : w.heap[g]? = some (.cells cs e fr)) (hcs : cs.toList = u8s zs) (hl : zs.length = n) (hc : n <= c) (hm : c <= maxLen) (hb : Byte8 zs) : Rd8 w (some ⟨g, 0, none⟩) n c zs := by
  refine ⟨hl, fun i hi => ⟨g, 0, rfl, lB h, ?_⟩, ⟨hc, hm⟩, (fun e => by cases e), hb⟩
  rw [Nat.zero_add, qB h, <- Array.getElem?_toList, hcs, u8s, List.getElem?_map, List.getElem?_eq_getElem (by omega)]
  rfl
theorem made_u8 (n : Nat) : (madeCells (Value.int .u8 0).cells (n * 1)).toList = u8s (List.replicate n 0) := by
  refine List.ext_getElem? fun j => ?_
  rw [Nat.mul_one]
  rcases Nat.lt_or_ge j n with hj | hj
  · rw [u8s, List.getElem?_map, List.getElem?_replicate, if_pos hj, List.getElem?_eq_getElem (by rw [Array.length_toList, size_madeCells]; exact hj), Array.getElem_toList]
    unfold madeCells
    simp [Value.cells, Nat.mod_one]
  · rw [List.getElem?_eq_none (by rw [Array.length_toList, size_madeCells]; exact hj), List.getElem?_eq_none (by simp; exact hj)]
theorem make8 (n : Nat) (z : Int) (hz : z = (n : Int)) (hn : n <= 1099511627776) : ∃ cs : Array Value, cs.toList = u8s (List.replicate n 0) /\ cs.size = n /\ ∀ W : World, (Instr.makeSlice 33 (.int .i64 z) (.int .i64 z)).run prog W = .ok (.slice (some ⟨W.heap.size, 0, none⟩) n n) (W.alloc (.cells cs 5)) := by
  obtain ⟨i, hi, hzz, hs, hb⟩ := info_parts u8info
  subst hz
  refine ⟨_, made_u8 n, by rw [size_madeCells, Nat.mul_one], fun W => ?_⟩
  have hr := run_make (P := prog) W 33 5 i _ Tryz.underlying33 hi hzz .i64 .i64 (n : Int) (n : Int) (by omega) (by omega) (by rw [hb]; omega) (by omega)
  rw [Int.toNat_natCast, hs] at hr
  exact hr
theorem heap_alloc_size (w : World) (o : Obj) : (w.alloc o).heap.size = w.heap.size + 1 := by simp
theorem Rd8.nilv (w : World) : Rd8 w none 0 0 [] := ⟨rfl, fun i hi => by omega, ⟨Nat.le_refl _, by unfold maxLen; omega⟩, fun _ => ⟨rfl, rfl⟩, .nil⟩
theorem nB (w : World) (o : Obj) : (w.alloc o).heap[w.heap.size]? = some o := by show (w.heap.push _)[w.heap.size]? = _; simp
theorem old_at {w : World} {b : Nat} {x : Obj} (h : w.heap[b]? = some x) (o : Obj) : (w.alloc o).heap[b]? = some x := by
  show (w.heap.push _)[b]? = _
  rw [Array.getElem?_push, if_neg (by have := lB h; omega)]; exact h
theorem keep_app {W W' : World} {b j base s n : Nat} {e : TypeId} {v : Value} {xs : List Value} {u : Option Value} (hg : W.grownBy W' v.ownBlock) (ho : W.ownsRow base e s v n xs) (hlt : b < base) (hb : b < W.heap.size) (h : W.cell? ⟨b, j, none⟩ = u) : W'.cell? ⟨b, j, none⟩ = u := by
  rw [World.cell?_of_block (w := W) (a := ⟨b, j, none⟩) (hg.block b hb (fun e => by
    have := (ho.lt b e.symm).1
    omega))]
  exact h
theorem Own8w {w : World} {B B' : Nat} {e : TypeId} {s n : Nat} {v : Value} {xs : List Value} (h : w.ownsRow B e s v n xs) (hB : B' <= B) : w.ownsRow B' e s v n xs := by
  refine ⟨h.1, ?_⟩
  rcases h.2 with h2 | ⟨g, cap, cur, hv, hg, r⟩
  · exact .inl h2
  · exact .inr ⟨g, cap, cur, hv, by omega, r⟩
theorem bel_far {w wr w1 : World} {o : Obj} {B n s : Nat} {e : TypeId} {v : Value} {xs : List Value} (hb : Below w.heap.size w wr) (ho : wr.ownsRow B e s v n xs) (hB : w.heap.size <= B) (hg : (wr.alloc o).drew.grownBy w1 v.ownBlock) : Below w.heap.size w w1 := by
  have hs := hb.size
  refine ((hb.alloc (o := o) hs).drew).trans ⟨hg.os, hg.tape, hg.output, Nat.le_trans (by show _ <= (wr.alloc o).heap.size; simp) hg.size, fun k hk => hg.block k (by show k < (wr.alloc o).heap.size; simp; omega) (fun e => ?_)⟩
  have := (ho.lt k e.symm).1
  omega
theorem bidd {w w' : World} (h : Below w.drew.heap.size w.drew w') : Below w.heap.size w w' := ((Below.refl _ w).drew).trans h
theorem bel1d {w w' : World} {o : Obj} (h : Below (w.alloc o).drew.heap.size (w.alloc o).drew w') : Below w.heap.size w w' /\ w'.heap[w.heap.size]? = some o :=
  ⟨bel1 (bidd h), by rw [(bidd h).block _ (by simp)]; exact nB _ _⟩
theorem Own8.drew {B : Nat} {w : World} {v : Value} {bs : List Int} (h : Own8 B w v bs) : Own8 B w.drew v bs := h.below (Below.refl _ _).drew
theorem Own8.allocd {B : Nat} {w : World} {v : Value} {bs : List Int} (h : Own8 B w v bs) (o : Obj) : Own8 B (w.alloc o).drew v bs := h.below (((Below.refl _ _).alloc (Nat.le_refl _) _).drew)
theorem Own8.alloc {B : Nat} {w : World} {v : Value} {bs : List Int} (h : Own8 B w v bs) (o : Obj) : Own8 B (w.alloc o) v bs := h.below (((Below.refl _ _).alloc (Nat.le_refl _) _))
theorem Own8.of {B m : Nat} {w : World} {v : Value} {a b : List Int} (h : w.ownsRow B 5 1 v m (u8s a ++ u8s b)) (hm : m = (a ++ b).length) (ha : Byte8 a) (hb : Byte8 b) : Own8 B w v (a ++ b) := by
  subst hm
  exact ⟨by rw [u8s, List.map_append]; exact h, ha.app hb⟩
theorem bel1x {w w' : World} {o : Obj} (h : Below (w.alloc o).heap.size (w.alloc o) w') : Below w.heap.size w w' /\ w'.heap[w.heap.size]? = some o :=
  ⟨bel1 h, by rw [h.block _ (by simp)]; exact nB _ _⟩
theorem sB {w w1 : World} {B b i : Nat} {v : Value} (h : Below B w w1) (hb : B <= b) : Below B w (w1.setCell ⟨b, i, none⟩ v) :=
  ⟨h.os, h.tape, h.output, by simp [World.setCell]; exact h.size, fun k hk => (Below.heap_setCell _ _ _ _ (by show k ≠ b; omega)).trans (h.block k hk)⟩
theorem results_cell2 {P : Program} {fn : Func} {p u : Tmp} {ty : TypeId} (h : fn.results = #[.cell p ty, .tmp u]) (tmps : Array Value) (w : World) (g : Nat) (t : TypeId) (cs : Array Value) (fr : Nat × Nat) (d : TypeDesc)
    (hp : tmps.getD p undef = .pointer (some ⟨g, 0, none⟩)) (hg : w.heap[g]? = some (.cells cs t fr))
    (hu : P.underlying ty = some d) (hd : (match d with | .struct _ | .array _ _ => true | _ => false) = true) (hi : (P.info? ty).map (·.size) = some cs.size) :
    (results fn tmps).run P w = .ok (.tuple #[.agg cs, tmps.getD u undef]) w := by
  have hp' : tmps[p]?.getD undef = .pointer (some ⟨g, 0, none⟩) := by simpa using hp
  rw [results_cell_tmp h]
  simp [hp', asAddr, run_loadVar_row w g t ty cs fr d hg hu hd hi]
theorem set6 {w : World} {b : Nat} {x0 x1 x2 x3 x4 x5 : Value} {t : TypeId} (h : w.heap[b]? = some (.cells #[x0, x1, x2, x3, x4, x5] t (0, 0))) (y0 y1 y2 y3 y4 y5 : Value) :
    ((((((w.setCell ⟨b, 0, none⟩ y0).setCell ⟨b, 1, none⟩ y1).setCell ⟨b, 2, none⟩ y2).setCell ⟨b, 3, none⟩ y3).setCell ⟨b, 4, none⟩ y4).setCell ⟨b, 5, none⟩ y5).heap[b]? = some (.cells #[y0, y1, y2, y3, y4, y5] t (0, 0)) :=
  uB (uB (uB (uB (uB (uB h y0) y1) y2) y3) y4) y5
theorem put8w (a : Option Addr) (n cap : Nat) (bs : List Int) (x : Int) (wd : Nat) (w : World) (h : Rd8 w a n cap bs) (hn : n <= 1099511627776) (x0 : 0 <= x) (x1 : x < 18446744073709551616) (w1 : 1 <= wd) (w8 : wd <= 8) :
    Calls prog 232 #[.slice a n cap, .int .u64 x, .int .i64 (wd : Int)] w (Ret8 w (bs ++ beN x wd)) := by
  have H := hid h
  obtain ⟨i0, hi, hz0, hz1, hz2⟩ := info_parts u8info
  have I1 := hid hi; have I2 := hid hz0; have I3 := hid hz1; have I4 := hid hz2
  clear h hi hz0 hz1 hz2
  go_enter Tryz.func232, Tryz.ntmps232
  go_wp2_with fail
  with_reducible refine (clone8 a n cap bs _ H.out hn).mono ?_
  rintro e w2 ⟨v, rfl, ho, hb⟩
  have O1 := hid ho
  have B1 := hid hb
  clear ho hb
  go_wp2_with fail
  go_loopw [7, 8] (fun v j wr => ∃ k : Nat, k <= wd /\ j = .int .i64 (8 * ((wd : Int) - 1 - (k : Int))) /\ wr.ownsRow w.heap.size 5 1 v (bs.length + k) (u8s bs ++ u8s ((beN x wd).take k)) /\ Below w.heap.size w wr) (fun _ j _ => (intOf j + 8).toNat)
  case atStart => exact ⟨0, Nat.zero_le _, by go_num, by simpa using O1.out.own, B1.out⟩
  case round =>
    obtain ⟨k, hk, rfl, ho, hb⟩ := hrel
    have O2 := hid ho
    have B2 := hid hb
    clear ho hb
    by_cases hlt : k < wd
    · have hj : 0 <= 8 * ((wd : Int) - 1 - (k : Int)) := by omega
      have hj2 : 8 * ((wd : Int) - 1 - (k : Int)) <= 56 := by omega
      go_wp2_with (at_builtin; refine Stop.out ?_)
      have hp : x / 2 ^ (8 * (wd - 1 - k)) % 256 = x / 256 ^ (wd - 1 - k) % 256 := by rw [Int.pow_mul]; rfl
      have ht := beN_take x wd k hlt
      rw [hp]
      refine Stop.of (wpList_app rfl _ _ 33 rfl w.heap.size 5 i0 (.int .u8 0) 1 1 Tryz.underlying33 I1.out I2.out I3.out I4.out rfl (by decide) _ (bs.length + k) (u8s bs ++ u8s ((beN x wd).take k)) rfl (O2.out.alloc _) _ 1 [.int .u8 (x / 256 ^ (wd - 1 - k) % 256)] rfl
        (src_lit (e := 5) (g := wr.heap.size) (m := 1) (c := 1) _ (0, 0) (by show (wr.heap.push _)[wr.heap.size]? = _; simp) rfl) (ints_one .u8 [_]) (by have := H.out.len; unfold maxLen; omega) (by have := H.out.len; omega) (by have := B2.out.size; simp; omega) ?_)
      intro v' w1 ho hg
      have B3 := hid (bel_app B2.out O2.out hg)
      have O3 := hid (show w1.ownsRow w.heap.size 5 1 v' (bs.length + (k + 1)) (u8s bs ++ u8s ((beN x wd).take (k + 1))) by
        rw [ht, u8s, u8s, List.map_append, <- List.append_assoc]; exact ho)
      clear hp ht ho hg
      go_wp2_with fail
      go_roundw
      case rel => exact ⟨k + 1, by omega, by go_num, O3.out, B3.out⟩
      case measure => simp [intOf]; omega
    · obtain rfl : k = wd := by omega
      have hj : 8 * ((k : Int) - 1 - (k : Int)) = -8 := by omega
      go_wp2_with fail
      go_ret
      have hl := O2.out
      rw [List.take_of_length_le (by rw [bL]; exact Nat.le_refl _)] at hl
      exact ⟨_, rfl, .app hl (bL _ _) H.out.byt (beN_byte _ _), B2.out⟩
def Rdr (w : World) (b G : Nat) (bs : List Int) : Prop :=
  ∃ a cap, w.heap[b]? = some (.cells #[.slice a bs.length cap, .bool false] 357 (0, 0)) /\ Rd8 w a bs.length cap bs /\ G ≠ b /\ ∀ ad, a = some ad -> ad.block = G
theorem Rdr.lt {w : World} {b G : Nat} {bs : List Int} (h : Rdr w b G bs) : b < w.heap.size := by obtain ⟨a, cap, h1, _⟩ := h; exact lB h1
theorem Rdr.below {w w' : World} {b G : Nat} {bs : List Int} (h : Rdr w b G bs) (hb : Below w.heap.size w w') : Rdr w' b G bs := by
  obtain ⟨a, cap, h1, h2, h3⟩ := h
  exact ⟨a, cap, by rw [hb.block b (lB h1)]; exact h1, h2.below hb (Nat.le_refl _), h3⟩
theorem Fr.keep {S : Nat -> Prop} {w w' : World} {b j : Nat} (hf : Fr S w w') (hl : b < w.heap.size) (hS : ¬ S b) : w'.cell? ⟨b, j, none⟩ = w.cell? ⟨b, j, none⟩ := World.cell?_of_block (w := w) (a := ⟨b, j, none⟩) (hf.block b hl hS)
theorem Rd8.fr {w w' : World} {S : Nat -> Prop} {a : Option Addr} {n cap : Nat} {bs : List Int} (h : Rd8 w a n cap bs) (hf : Fr S w w') (hS : ∀ ad, a = some ad -> ¬ S ad.block) : Rd8 w' a n cap bs := by
  refine ⟨h.len, fun i hi => ?_, h.cap_le, h.nil, h.byt⟩
  obtain ⟨g, off, rfl, hl, hc⟩ := h.el i hi
  refine ⟨g, off, rfl, Nat.lt_of_lt_of_le hl hf.size, ?_⟩
  rw [World.cell?_of_block (w := w) (a := ⟨g, off + i, none⟩) (hf.block g hl (hS _ rfl))]; exact hc
theorem Rd8.take {w : World} {a : Option Addr} {n cap : Nat} {bs : List Int} (h : Rd8 w a n cap bs) (m : Nat) (hm : m <= n) (h0 : a = none -> cap = 0) : Rd8 w a m cap (bs.take m) := by
  refine ⟨by rw [List.length_take, h.len]; omega, fun i hi => ?_, ⟨Nat.le_trans hm h.cap_le.1, h.cap_le.2⟩, fun e => ⟨by have := (h.nil e).1; omega, h0 e⟩, h.byt.take _⟩
  obtain ⟨g, off, e, hl, hc⟩ := h.el i (by omega)
  refine ⟨g, off, e, hl, ?_⟩
  rw [hc, List.getElem?_take, if_pos hi]
def lowA (a : Option Addr) (cap m : Nat) : Option Addr := if cap = m then a else a.map (·.add m)
theorem Rd8.drop {w : World} {a : Option Addr} {n cap : Nat} {bs : List Int} (h : Rd8 w a n cap bs) (m : Nat) (hm : m <= n) : Rd8 w (lowA a cap m) (n - m) (cap - m) (bs.drop m) := by
  have hcl := h.cap_le
  refine ⟨by rw [List.length_drop, h.len], fun i hi => ?_, ⟨by omega, by omega⟩, fun e => ?_, h.byt.drop _⟩
  · obtain ⟨g, off, rfl, hl, hc⟩ := h.el (m + i) (by omega)
    refine ⟨g, off + m, ?_, hl, ?_⟩
    · unfold lowA; rw [if_neg (by omega)]; simp [Addr.add]
    · rw [show off + m + i = off + (m + i) from by omega, hc, List.getElem?_drop]
  · unfold lowA at e
    split at e
    · have := h.nil e; omega
    · cases a with
      | none => have := h.nil rfl; omega
      | some ad => cases e
theorem fS (w : World) (b i : Nat) (v : Value) : Fr (fun j => j = b) w (w.setCell ⟨b, i, none⟩ v) :=
  ⟨rfl, rfl, rfl, by simp [World.setCell], fun k _ hne => Below.heap_setCell _ _ _ _ hne⟩
theorem slice_low1 (a : Option Addr) (n c m : Nat) (hm : m <= n) (W : World) : (Instr.slice 33 (.slice a n c) (some (.int .i64 (m : Int))) none none).run prog W = .ok (.slice (lowA a c m) (n - m) (c - m)) W := by
  have hs : (sizeOf (prog.elem 33)).run prog W = .ok 1 W := by kernel_rfl
  rw [run_slice_l (P := prog) W 33 a n c (by kernel_rfl) .i64 (m : Int) (by omega) (by omega), hs]
  simp only [sliced, Result.andThen_ok, Int.toNat_natCast, Nat.mul_one, lowA]
theorem take8w {G : Nat} (b : Nat) (bs : List Int) (m : Nat) (w : World) (h : Rdr w b G bs) (hm : m <= bs.length) :
    Calls prog 230 #[.pointer (some ⟨b, 0, none⟩), .int .i64 (m : Int)] w fun e w' =>
      ∃ a cap, e = .returned (.slice a m cap) /\ Rd8 w' a m cap (bs.take m) /\ Rdr w' b G (bs.drop m) /\ Fr (fun j => j = b) w w' := by
  obtain ⟨a, cap, hb, hr, hgb, hG⟩ := h
  have hne : ∀ ad, a = some ad -> ad.block ≠ b := fun ad e => by rw [hG ad e]; exact hgb
  have c0 := qB (i := 0) hb
  have c1 := qB (i := 1) hb
  have f0 := zB (i := 0) hb
  simp only [List.getElem?_toArray, List.getElem?_cons_zero, List.getElem?_cons_succ] at c0 c1
  have hm' : (m : Int) <= (bs.length : Int) := by omega
  have HB := hid hb
  have HR := hid hr
  have hc := hr.cap_le
  have hmc : m <= cap := by omega
  have hmc' : (m : Int) <= (cap : Int) := by omega
  have L1 := fun W => slice_low1 a bs.length cap m hm W
  clear hb hr hc
  go_enter Tryz.func230, Tryz.ntmps230
  go_wp2_with fail
  go_ret
  have hf : Fr (fun j => j = b) w (w.setCell ⟨b, 0, none⟩ (.slice (lowA a cap m) (bs.length - m) (cap - m))) := fS w b 0 _
  have h2 : Rd8 (w.setCell ⟨b, 0, none⟩ (.slice (lowA a cap m) (bs.length - m) (cap - m))) a bs.length cap bs := HR.out.fr hf hne
  refine ⟨_, _, rfl, h2.take m hm (fun e => (h2.nil e).2), ⟨lowA a cap m, cap - m, ?_, ?_, ?_⟩, hf⟩
  · rw [uB HB.out, List.length_drop]; rfl
  · have := h2.drop m hm
    rwa [List.length_drop]
  · refine ⟨hgb, fun ad he => ?_⟩
    unfold lowA at he
    split at he
    · exact hG ad he
    · cases a with
      | none => cases he
      | some ad0 =>
      cases he
      have h5 := hG ad0 rfl
      unfold Addr.add
      split <;> exact h5
theorem pow7 : ∀ k : Nat, k <= 7 -> (256 : Int) ^ k <= 72057594037927936 := by
  intro k hk
  match k, hk with
  | 0, _ => decide
  | 1, _ => decide
  | 2, _ => decide
  | 3, _ => decide
  | 4, _ => decide
  | 5, _ => decide
  | 6, _ => decide
  | 7, _ => decide
theorem shl8 (n x : Int) (h0 : 0 <= n) (h1 : n < 72057594037927936) (x0 : 0 <= x) (x1 : x < 256) : bits .or .u64 (n * 256) x = n * 256 + x := by
  refine bits_join .u64 64 (by decide) (fun n h0 h1 => ?_) 8 (n * 256) x (by omega) (by omega) (by omega) x0 (by omega) (by omega)
  simp [IntKind.wrap, IntKind.bits, IntKind.signed]
  omega
theorem num8w {G : Nat} (b : Nat) (bs : List Int) (m : Nat) (w : World) (h : Rdr w b G bs) (hm : m <= bs.length) (m1 : 1 <= m) (m8 : m <= 8) :
    Calls prog 159 #[.pointer (some ⟨b, 0, none⟩), .int .i64 (m : Int)] w fun e w' =>
      e = .returned (.int .u64 (beV (bs.take m))) /\ Rdr w' b G (bs.drop m) /\ Fr (fun j => j = b) w w' := by
  have H := hid h
  clear h
  go_enter Tryz.func159, Tryz.ntmps159
  go_wp2_with fail
  with_reducible refine (take8w b bs m _ H.out hm).mono ?_
  rintro e w1 ⟨a, cap, rfl, hr, hd, hf⟩
  have HR := hid hr
  have HD := hid hd
  have HF := hid hf
  have hl : (bs.take m).length = m := hr.len
  clear hr hd hf
  go_wp2_with fail
  go_loop [5, 18, 7] (fun v j _ => ∃ k : Nat, k <= m /\ j = .int .i64 k /\ v = .int .u64 (beV ((bs.take m).take k))) (fun _ j _ => m - (intOf j).toNat)
  case atStart => exact ⟨0, Nat.zero_le _, rfl, rfl⟩
  case round =>
    obtain ⟨k, hk, rfl, rfl⟩ := hrel
    by_cases hlt : k < m
    · obtain ⟨g, off, rfl, _, hcell⟩ := HR.out.el k hlt
      obtain ⟨z, hz⟩ : ∃ z, (bs.take m)[k]? = some z := ⟨_, List.getElem?_eq_getElem (by rw [hl]; exact hlt)⟩
      rw [hz] at hcell
      simp only [Option.getD_some] at hcell
      obtain ⟨z0, z1⟩ := HR.out.byt z (List.mem_of_getElem? hz)
      have hs : beV ((bs.take m).take (k + 1)) = beV ((bs.take m).take k) * 256 + z := by
        rw [List.take_add_one, hz]; exact beV_snoc _ _
      obtain ⟨q0, q1⟩ := beV_rng (HR.out.byt.take k)
      have hq : beV ((bs.take m).take k) < 72057594037927936 := by
        refine Int.lt_of_lt_of_le q1 ?_
        rw [List.length_take, hl, Nat.min_eq_left (by omega)]
        exact pow7 k (by omega)
      have hsh := shl8 _ z q0 hq z0 z1
      generalize beV ((bs.take m).take k) = q at *
      have hw1 : IntKind.u64.wrap (q * 256) = q * 256 := by simp [IntKind.wrap, IntKind.bits, IntKind.signed]; omega
      have hw2 : IntKind.u64.wrap z = z := by simp [IntKind.wrap, IntKind.bits, IntKind.signed]; omega
      have HS := hid hs
      clear hs hz q1
      go_wp2_with fail
      go_round
      case rel => exact ⟨k + 1, by omega, by go_num, by rw [HS.out]⟩
      case measure => simp [intOf]; omega
    · obtain rfl : k = m := by omega
      go_wp2_with fail
      go_ret
      rw [List.take_of_length_le (by rw [hl]; exact Nat.le_refl _)]
      exact ⟨rfl, HD.out, HF.out⟩
theorem newrd8 (a : Option Addr) (n cap : Nat) (bs : List Int) (w : World) (h : Rd8 w a n cap bs) (hn : n <= 1099511627776) (h0 : 0 < n) :
    Calls prog 157 #[.slice a n cap] w fun e w' => ∃ b G, e = .returned (.pointer (some ⟨b, 0, none⟩)) /\ Rdr w' b G bs /\ w.heap.size <= b /\ w.heap.size <= G /\ G < w'.heap.size /\ Below w.heap.size w w' := by
  have H := hid h
  clear h
  go_enter Tryz.func157, Tryz.ntmps157
  go_wp2_with fail
  with_reducible refine (clone8 a n cap bs _ H.out hn).mono ?_
  rintro e w1 ⟨v, rfl, ho, hb⟩
  obtain ⟨a1, c1, rfl, hr⟩ := ho.rd
  go_wp2_with fail
  go_ret
  have hs := hb.size
  have hl1 := ho.own.lt
  cases a1 with
  | none =>
    have hcn := hr.nil rfl
    have := H.out.len
    omega
  | some ad0 =>
    have h9 := ho.own.lt ad0.block rfl
    exact ⟨_, ad0.block, rfl, ⟨_, c1, nB w1 _, hr.below (B := w1.heap.size) ((Below.refl _ _).alloc (Nat.le_refl _) _) (Nat.le_refl _), by omega, fun ad e => by cases e; rfl⟩, hs, h9.1, by simp; omega, hb.alloc hs _⟩
theorem Rdr.fr {w w' : World} {b G : Nat} {bs : List Int} {S : Nat -> Prop} (h : Rdr w b G bs) (hf : Fr S w w') (hb : ¬ S b) (hG : ¬ S G) : Rdr w' b G bs := by
  obtain ⟨a, cap, h1, h2, h3, h4⟩ := h
  exact ⟨a, cap, (hf.block b (lB h1) hb).trans h1, h2.fr hf (fun ad e => by rw [h4 ad e]; exact hG), h3, h4⟩
theorem put8z (a : Option Addr) (n cap : Nat) (bs : List Int) (x z : Int) (wd m : Nat) (w : World) (h : Rd8 w a n cap bs) (hn : n <= 1099511627776) (x0 : 0 <= x) (x1 : x < 18446744073709551616) (w1 : 1 <= wd) (w8 : wd <= 8) (hz : z = (wd : Int)) (hm : m = n + wd) :
    Calls prog 232 #[.slice a n cap, .int .u64 x, .int .i64 z] w fun e w' => ∃ a' c', e = .returned (.slice a' m c') /\ Own8 w.heap.size w' (.slice a' m c') (bs ++ beN x wd) /\ Rd8 w' a' m c' (bs ++ beN x wd) /\ Below w.heap.size w w' := by
  subst hz hm
  refine (put8w a n cap bs x wd w h hn x0 x1 w1 w8).mono ?_
  rintro e w' ⟨v, rfl, ho, hb⟩
  obtain ⟨a', c', rfl, hr⟩ := ho.rd
  have hl : (bs ++ beN x wd).length = n + wd := by rw [List.length_append, bL, h.len]
  rw [hl] at hr ho ⊢
  exact ⟨a', c', rfl, ho, hr, hb⟩
theorem num8z {G : Nat} (b : Nat) (bs : List Int) (z : Int) (m : Nat) (w : World) (h : Rdr w b G bs) (hm : m <= bs.length) (m1 : 1 <= m) (m8 : m <= 8) (hz : z = (m : Int)) :
    Calls prog 159 #[.pointer (some ⟨b, 0, none⟩), .int .i64 z] w fun e w' =>
      e = .returned (.int .u64 (beV (bs.take m))) /\ Rdr w' b G (bs.drop m) /\ Fr (fun j => j = b) w w' := by
  subst hz
  exact num8w b bs m w h hm m1 m8
end Go.Proofs.YtbikkioipamlmaaGreatDoor
