/-
  Laws of append and of rows of the call's own, in the forms in which this seat's walks meet them. No program here.
-/
import Derived.Test.YtdjjmglocdhnhaaBase
import Derived.Deep.Quiet
import Derived.BigQuiet
namespace Go.Proofs.Ytdjjmglocdhnhaa
open Go.RowKit
/-- what append reads of its second argument: nothing (nil), or m elements of 'size' cells each -/
def Src (w : World) (size : Nat) (x : Value) (m : Nat) (news : List Value) : Prop :=
  news.length = m * size ∧ ((x = .slice none 0 0 ∧ m = 0) ∨ ∃ ad c, x = .slice (some ad) m c ∧ ∀ j u, news[j]? = some u → w.cell? (ad.add j) = some u)
theorem Src.le {w : World} {size : Nat} {x : Value} {m : Nat} {news : List Value} (h : Src w size x m news) : news.length = m * size := h.1
/-- a source keeps while only newer blocks turn -/
theorem Src.below {w w' : World} {B size : Nat} {x : Value} {m : Nat} {news : List Value} (h : Src w size x m news) (hb : Below B w w') (hB : w.heap.size ≤ B) : Src w' size x m news := by
  obtain ⟨hl, hs⟩ := h
  refine ⟨hl, hs.imp id ?_⟩
  rintro ⟨ad, c, rfl, hc⟩
  refine ⟨ad, c, rfl, fun j u hu => ?_⟩
  have h1 := hc j u hu
  rw [hb.cell (Nat.lt_of_lt_of_le (World.block_lt_of_cell? _ _ h1) hB)]; exact h1
theorem run_app {P : Program} {w : World} (base : Nat) (t ty e : TypeId) (i : TypeInfo) (z : Value) (size bytes : Nat) (ht : P.underlying t = some (.slice e)) (hi : P.info? e = some i) (hz : i.zero = some z)
    (hsize : i.size = size) (hby : i.bytes = bytes) (hzs : z.cells.size = size) (hsz : 0 < size)
    (v : Value) (n : Nat) (xs : List Value) (hown : w.ownsRow base e size v n xs)
    (x : Value) (m : Nat) (news : List Value) (hs : Src w size x m news) (h1 : ∀ u ∈ news, u.oneCell' = true)
    (h63 : n + m ≤ maxLen) (hbytes : (n + m) * bytes ≤ 140737488355328) (hbase : base ≤ w.heap.size) :
    ∃ v' w', (Builtin.append_ #[t, t] ty #[v, x]).run P w = .ok v' w' ∧ w'.ownsRow base e size v' (n + m) (xs ++ news) ∧ w.grownBy w' v.ownBlock := by
  obtain ⟨hl, hs⟩ := hs
  rcases hs with ⟨rfl, rfl⟩ | ⟨ad, c, rfl, hc⟩
  · have hn : news = [] := by cases news <;> simp_all
    subst hn
    refine ⟨v, w, run_append_owned_none w base t ty e i size ht hi v n xs hown, by simpa using hown, World.grownBy.refl _ _⟩
  · obtain ⟨v', w', hr, h2, h3, h4⟩ := run_append_own (P := P) w base t ty e i z size bytes ht hi hz hsize hby hzs hsz v n xs hown ad m c news hl hc h1 h63 hbytes hbase
    exact ⟨v', w', hr, h2, h3⟩
theorem wpList_app {P : Program} {w : World} {ops : Array Oper} {rest : List Oper} {o : Oper} {a : Act} {Q : Exit → Act → World → Prop} (hgd : o.guard = none) (s x : Operand) (t : TypeId)
    (ho : o.op = .call { callee := .builtin .append, args := #[s, x], argTypes := #[t, t] })
    (base : Nat) (e : TypeId) (i : TypeInfo) (z : Value) (size bytes : Nat) (ht : P.underlying t = some (.slice e)) (hi : P.info? e = some i) (hz : i.zero = some z)
    (hsize : i.size = size) (hby : i.bytes = bytes) (hzs : z.cells.size = size) (hsz : 0 < size)
    (v : Value) (n : Nat) (xs : List Value) (hs : a.eval s = v) (hown : w.ownsRow base e size v n xs)
    (xv : Value) (m : Nat) (news : List Value) (hx : a.eval x = xv) (hsrc : Src w size xv m news) (h1 : ∀ u ∈ news, u.oneCell' = true)
    (h63 : n + m ≤ maxLen) (hbytes : (n + m) * bytes ≤ 140737488355328) (hbase : base ≤ w.heap.size)
    (h : ∀ v' w', w'.ownsRow base e size v' (n + m) (xs ++ news) → w.grownBy w' v.ownBlock → wpList P ops Q rest (a.put o.dst v') w') : wpList P ops Q (o :: rest) a w :=
  wpList_plain hgd fun _ hK => by
    obtain ⟨v', w', hr, h2, h3⟩ := run_app (P := P) (w := w) base t o.type e i z size bytes ht hi hz hsize hby hzs hsz v n xs hown xv m news hsrc h1 h63 hbytes hbase
    unfold Oper.wp execOp
    simp only [ho, resolve, invoke, builtin, Sem.run_bind, Sem.run_pure, Result.andThen_ok, List.map_toArray, List.map_cons, List.map_nil, hs, hx, hr]
    exact hK _ _ (h v' w' h2 h3)
theorem ownsRow_elems {w : World} {base : Nat} {e : TypeId} {v : Value} {n : Nat} {k : IntKind} {zs : List Int} (h : w.ownsRow base e 1 v n (zs.map (Value.int k))) :
    ∃ a cap, v = .slice a n cap ∧ Elems k w a n zs ∧ n ≤ cap ∧ cap ≤ maxLen := by
  obtain ⟨hl, hv⟩ := id h
  rcases hv with ⟨rfl, rfl⟩ | ⟨g, cap, cur, rfl, hb, hg, hn, hm, hc, ht⟩
  · exact ⟨none, 0, rfl, fun i hi => by omega, Nat.le_refl _, by unfold maxLen; omega⟩
  · refine ⟨_, cap, rfl, fun i hi => ⟨g, 0, rfl, (Array.getElem?_eq_some_iff.1 hg).1, ?_⟩, hn, hm⟩
    rw [show 0 + i = i from by omega, h.cellAt i (by omega)]
    have hlen : zs.length = n := by simpa using hl
    simp [List.getElem?_map, List.getElem?_eq_getElem (show i < zs.length by omega)]
theorem Elems.src {w : World} {k : IntKind} {a : Option Addr} {len cap : Nat} {zs : List Int} (h : Elems k w a len zs) (hl : len ≤ zs.length) (h0 : a = none → len = 0 ∧ cap = 0) : Src w 1 (.slice a len cap) len ((zs.take len).map (Value.int k)) := by
  refine ⟨by simp; omega, ?_⟩
  cases a with
  | none => obtain ⟨rfl, rfl⟩ := h0 rfl; exact .inl ⟨rfl, rfl⟩
  | some ad =>
    refine .inr ⟨ad, cap, rfl, fun j u hu => ?_⟩
    have hj : j < len := by
      rcases Nat.lt_or_ge j len with hj | hj
      · exact hj
      · rw [List.getElem?_eq_none (by simp; omega)] at hu; cases hu
    obtain ⟨b, off, ha, _, hc⟩ := h j hj
    simp only [Option.some.injEq] at ha
    subst ha
    rw [Go.WideShapes.add_plain]
    rw [hc]
    simp [List.getElem?_map, hj, List.getElem?_eq_getElem (show j < zs.length by omega)] at hu ⊢
    exact hu
theorem src_lit {w : World} {e : TypeId} {size : Nat} {g m c : Nat} (cs : Array Value) (fr : Nat × Nat) (hg : w.heap[g]? = some (.cells cs e fr)) (hs : cs.size = m * size) : Src w size (.slice (some ⟨g, 0, none⟩) m c) m cs.toList := by
  refine ⟨by simpa using hs, .inr ⟨_, c, rfl, fun j u hu => ?_⟩⟩
  rw [Go.WideShapes.add_plain, Nat.zero_add, cell_of_row w g j cs e fr hg]
  simpa using hu
/-- the walk stands still at a goal that is held by 'Stop': so that the next law can be given by hand -/
def Stop (p : Prop) : Prop := p
theorem Stop.out {p : Prop} (h : Stop p) : p := h
theorem Stop.of {p : Prop} (h : p) : Stop p := h
/-- a later world: below B it is as w was -/
structure Ext (B : Nat) (w : World) where
  val : World
  bel : Below B w val
/-- A region that draws its order, whose operations read old memory alone and whose callees at most make memory: one walk in the order of the text. -/
theorem wp_region_ext {P : Program} (B : Nat) {id : Nat} {Q : Exit → Act → World → Prop} {a : Act} {w : World} {l : List Oper} (hm : P.follows .mixedOrders = true) (hB : Region.lexB .any l.toArray = true)
    (h : wpQuiet P l.toArray (fun w' => ∃ x : Ext B w, w' = x.val) (fun a' => ∀ w', (∃ x : Ext B w, w' = x.val) → Q .normal a' w') l a) : (Code.region id l.toArray true).wp P Q a w :=
  wp_region_quiet (C := fun w' => ∃ x : Ext B w, w' = x.val) hm hB ⟨⟨_, (Below.refl B w).drew⟩, rfl⟩ (by simpa using h)
/-- a contract that holds in every world and at most makes memory, met inside such a region -/
theorem Calls.ext {P : Program} {f : FuncId} {args : Array Value} {B : Nat} {w : World} {x : Ext B w} {v : Value} (hB : B ≤ w.heap.size)
    (h : Calls P f args x.val fun e w' => e = .returned v ∧ Below x.val.heap.size x.val w') : Calls P f args x.val fun e w'' => e = .returned v ∧ ∃ y : Ext B w, w'' = y.val :=
  h.mono fun _ w' ⟨he, hb⟩ => ⟨he, ⟨w', x.bel.trans (hb.mono (Nat.le_trans hB x.bel.size))⟩, rfl⟩
theorem Ext.cell {B : Nat} {w : World} (x : Ext B w) (b o : Nat) (h : b < B) : x.val.cell? ⟨b, o, none⟩ = w.cell? ⟨b, o, none⟩ := x.bel.cell (p := ⟨b, o, none⟩) h
/-- what a walk may use of a later world: every old cell and every old mark read as before -/
theorem bcell {B : Nat} {W W' : World} (hb : Below B W W') : (∀ b o, b < B → W'.cell? ⟨b, o, none⟩ = W.cell? ⟨b, o, none⟩) ∧ (∀ b o, b < B → W'.frozen? ⟨b, o, none⟩ = W.frozen? ⟨b, o, none⟩) :=
  ⟨fun b o h => hb.cell (p := ⟨b, o, none⟩) h, fun b o h => hb.frozen (p := ⟨b, o, none⟩) h⟩
/-- a box that the call has laid, and what came behind it -/
theorem bel1 {w w' : World} {o : Obj} (h : Below (w.alloc o).heap.size (w.alloc o) w') : Below w.heap.size w w' :=
  ((Below.refl _ _).alloc (Nat.le_refl _) _).trans (h.mono (by simp))
theorem bel2 {w w' : World} {o o' : Obj} (h : Below ((w.alloc o).alloc o').heap.size ((w.alloc o).alloc o') w') : Below w.heap.size w w' := bel1 (bel1 h)
theorem bel3 {w w' : World} {o o' o'' : Obj} (h : Below (((w.alloc o).alloc o').alloc o'').heap.size (((w.alloc o).alloc o').alloc o'') w') : Below w.heap.size w w' := bel1 (bel2 h)
/-- two calls behind each other -/
theorem bel_trans {a b c : World} (h : Below a.heap.size a b) (k : Below b.heap.size b c) : Below a.heap.size a c := h.trans (k.mono h.size)
theorem ints_one (k : IntKind) (zs : List Int) : ∀ u ∈ zs.map (Value.int k), u.oneCell' = true := ints_oneCell k zs
end Go.Proofs.Ytdjjmglocdhnhaa
