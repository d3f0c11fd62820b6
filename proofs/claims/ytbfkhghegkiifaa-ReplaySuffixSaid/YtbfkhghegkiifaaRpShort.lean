/-
  Short: what its two results hold; the batches that came in.
-/
import Derived.Test.YtbfkhghegkiifaaRpMap
import Derived.Test.YtbfkhghegkiifaaRefList
import Derived.Deep.RegionLaw
namespace Go.Proofs.Ytbfkhghegkiifaa
open Go.RowKit
set_option linter.unusedVariables false
/-- a found record that came in: its six cells -/
def RawFd (w : World) (cs : List Value) : Prop :=
  ∃ (off len kind exp : Int) (ka va : Option Addr) (kc vl vc : Nat) (key : ByteArray), cs = [.int .i64 off, .int .i64 len, .int .i64 kind, .slice ka key.size kc, .slice va vl vc, .int .i64 exp] ∧ Vals w ka (byV key) ∧ key.size ≤ kc ∧ kc ≤ 9223372036854775807 ∧ (ka = none → kc = 0)
def RawBt (w : World) (cs : List Value) : Prop :=
  ∃ (seq : Int) (la : Option Addr) (ll lc : Nat) (g : Nat → List Value), cs = [.int .i64 seq, .slice la ll lc] ∧ ll ≤ 9223372036854775807 ∧ RowsAt w 6 la ll g ∧ ∀ k, k < ll → RawFd w (g k)
/-- batches that came in -/
def RawBts (w : World) (a : Option Addr) (len : Nat) : Prop := ∃ f, RowsAt w 2 a len f ∧ ∀ i, i < len → RawBt w (f i)
theorem RawFd.below {w w' : World} {cs : List Value} (h : RawFd w cs) (hb : Below w.heap.size w w') : RawFd w' cs := by
  obtain ⟨off, len, kind, exp, ka, va, kc, vl, vc, key, h1, h2, h3⟩ := h
  exact ⟨off, len, kind, exp, ka, va, kc, vl, vc, key, h1, h2.below hb (Nat.le_refl _), h3⟩
theorem RawBt.below {w w' : World} {cs : List Value} (h : RawBt w cs) (hb : Below w.heap.size w w') : RawBt w' cs := by
  obtain ⟨seq, la, ll, lc, g, h1, h2, h3, h4⟩ := h
  exact ⟨seq, la, ll, lc, g, h1, h2, h3.below hb (Nat.le_refl _), fun k hk => (h4 k hk).below hb⟩
theorem RawBts.below {w w' : World} {a : Option Addr} {len : Nat} (h : RawBts w a len) (hb : Below w.heap.size w w') : RawBts w' a len := by
  obtain ⟨f, h1, h2⟩ := h
  exact ⟨f, h1.below hb (Nat.le_refl _), fun i hi => (h2 i hi).below hb⟩
theorem RawBts.at {w : World} {a : Option Addr} {len : Nat} (h : RawBts w a len) (i : Nat) (hi : i < len) :
    ∃ b off seq la ll lc g, a = some ⟨b, off, none⟩ ∧ b < w.heap.size ∧ w.cell? ⟨b, off + i * 2, none⟩ = some (.int .i64 seq) ∧ w.cell? ⟨b, off + i * 2 + 1, none⟩ = some (.slice la ll lc) ∧ ll ≤ 9223372036854775807 ∧ RowsAt w 6 la ll g ∧ ∀ k, k < ll → RawFd w (g k) := by
  obtain ⟨f, h1, h2⟩ := h
  obtain ⟨seq, la, ll, lc, g, e, h3, h4, h5⟩ := h2 i hi
  obtain ⟨b, off, ha, hb, hc⟩ := h1 i hi
  rw [e] at hc
  exact ⟨b, off, seq, la, ll, lc, g, ha, hb, hc 0 (by omega), hc 1 (by omega), h3, h4, h5⟩
theorem raw_fd {w : World} {la : Option Addr} {ll : Nat} {g : Nat → List Value} (h1 : RowsAt w 6 la ll g) (h2 : ∀ k, k < ll → RawFd w (g k)) (k : Nat) (hk : k < ll) :
    ∃ b o off len kind exp ka va kc vl vc key, la = some ⟨b, o, none⟩ ∧ b < w.heap.size ∧ w.cell? ⟨b, o + k * 6, none⟩ = some (.int .i64 off) ∧ w.cell? ⟨b, o + k * 6 + 1, none⟩ = some (.int .i64 len) ∧ w.cell? ⟨b, o + k * 6 + 2, none⟩ = some (.int .i64 kind) ∧
      w.cell? ⟨b, o + k * 6 + 3, none⟩ = some (.slice ka key.size kc) ∧ w.cell? ⟨b, o + k * 6 + 4, none⟩ = some (.slice va vl vc) ∧ w.cell? ⟨b, o + k * 6 + 5, none⟩ = some (.int .i64 exp) ∧ Vals w ka (byV key) ∧ key.size ≤ kc ∧ kc ≤ 9223372036854775807 ∧ (ka = none → kc = 0) := by
  obtain ⟨off, len, kind, exp, ka, va, kc, vl, vc, key, e, h3⟩ := h2 k hk
  obtain ⟨b, o, ha, hb, hc⟩ := h1 k hk
  rw [e] at hc
  exact ⟨b, o, off, len, kind, exp, ka, va, kc, vl, vc, key, ha, hb, hc 0 (by omega), hc 1 (by omega), hc 2 (by omega), hc 3 (by omega), hc 4 (by omega), hc 5 (by omega), h3⟩
/-- the first ten bytes of a key -/
def cutK (key : ByteArray) (n : Nat) : ByteArray := key.extract 0 n
theorem cutK_size (key : ByteArray) (n : Nat) (h : n ≤ key.size) : (cutK key n).size = n := by
  unfold cutK; rw [ByteArray.size_extract]; omega
theorem byV_cut (key : ByteArray) (n : Nat) (h : n ≤ key.size) : byV (cutK key n) = (byV key).take n := by
  unfold byV cutK
  rw [ByteArray.data_extract, ← List.map_take]
  congr 1
  rw [Array.toList_extract]
  simp [List.extract]
/-- a batch of its own: new cells, old keys -/
structure XIn (w W : World) (b : Bt) : Prop where
  own : W.ownsRow w.heap.size 44 6 (.slice b.a b.fs.length b.c) b.fs.length (b.fs.flatMap Fd.cells)
  keys : ∀ f ∈ b.fs, KeyIn w f
  le : b.fs.length ≤ 8
theorem XIn.bt {w W : World} {b : Bt} (h : XIn w W b) (hb : Below w.heap.size w W) : BtIn W b := by
  obtain ⟨a, cap, e, hv, _⟩ := ownsRow_vals h.own
  injection e with e1 e2 e3
  subst e1
  exact ⟨hv, fun f hf => (h.keys f hf).below hb, h.le⟩
theorem XIn.below {w W W' : World} {b : Bt} (h : XIn w W b) (hb : Below W.heap.size W W') : XIn w W' b :=
  ⟨own_fr (S := fun _ => False) h.own (.of_below hb) (fun _ _ f => f), h.keys, h.le⟩
theorem own_ne {w : World} {base base' : Nat} {e e' : TypeId} {size size' : Nat} {v v' : Value} {n n' : Nat} {xs xs' : List Value} (h : w.ownsRow base e size v n xs) (k : w.ownsRow base' e' size' v' n' xs') (hne : e ≠ e') : ∀ g, v.ownBlock = some g → v'.ownBlock ≠ some g := by
  intro g hg hg'
  rcases h.2 with ⟨rfl, _⟩ | ⟨b, cap, cur, rfl, _, hb, _⟩
  · cases hg
  · rcases k.2 with ⟨rfl, _⟩ | ⟨b', cap', cur', rfl, _, hb', _⟩
    · cases hg'
    · cases hg; cases hg'
      rw [hb] at hb'
      injection hb' with hb'
      injection hb' with _ hb' _
      exact hne hb'
theorem own_far {w w' : World} {base base' : Nat} {e e' : TypeId} {size size' : Nat} {v v' : Value} {n n' : Nat} {xs xs' : List Value} (h : w.ownsRow base e size v n xs) (k : w.ownsRow base' e' size' v' n' xs') (hne : e ≠ e') (g : w.grownBy w' v'.ownBlock) : w'.ownsRow base e size v n xs :=
  own_same h (fun b hb => g.block b (h.lt b hb).2 (fun e => own_ne h k hne b hb e.symm))
/-- the two lists, and the batches that they lead to -/
structure Du (w W : World) (bs la lb : List Bt) (va vb : Value) : Prop where
  bel : Below w.heap.size w W
  xs : ∀ b ∈ bs, XIn w W b
  ownA : W.ownsRow w.heap.size 34 2 va la.length (la.flatMap Bt.cells)
  ownB : W.ownsRow w.heap.size 46 2 vb lb.length (lb.flatMap Bt.cells)
theorem Du.below {w W W' : World} {bs la lb : List Bt} {va vb : Value} (h : Du w W bs la lb va vb) (hb : Below W.heap.size W W') : Du w W' bs la lb va vb :=
  ⟨bel_trans h.bel hb, fun b hb' => (h.xs b hb').below hb, own_fr (S := fun _ => False) h.ownA (.of_below hb) (fun _ _ f => f), own_fr (S := fun _ => False) h.ownB (.of_below hb) (fun _ _ f => f)⟩
theorem Du.alloc {w W : World} {bs la lb : List Bt} {va vb : Value} (h : Du w W bs la lb va vb) (o : Obj) : Du w (W.alloc o) bs la lb va vb := h.below ((Below.refl _ _).alloc (Nat.le_refl _) _)
theorem Du.drew {w W : World} {bs la lb : List Bt} {va vb : Value} (h : Du w W bs la lb va vb) : Du w W.drew bs la lb va vb := h.below (Below.refl _ _).drew
theorem Du.appA {w W W' : World} {bs la lb : List Bt} {va vb va' : Value} {b : Bt} (h : Du w W bs la lb va vb) (own : W'.ownsRow w.heap.size 34 2 va' (la.length + 1) (la.flatMap Bt.cells ++ b.cells)) (g : W.grownBy W' va.ownBlock) : Du w W' bs (la ++ [b]) lb va' vb :=
  ⟨h.bel.grown g h.bel.size (fun j hj => (h.ownA.lt j hj).1), fun x hx => ⟨own_far (h.xs x hx).own h.ownA (by decide) g, (h.xs x hx).keys, (h.xs x hx).le⟩, by rw [List.length_append, List.flatMap_append]; simpa using own, own_far h.ownB h.ownA (by decide) g⟩
theorem Du.appB {w W W' : World} {bs la lb : List Bt} {va vb vb' : Value} {b : Bt} (h : Du w W bs la lb va vb) (own : W'.ownsRow w.heap.size 46 2 vb' (lb.length + 1) (lb.flatMap Bt.cells ++ b.cells)) (g : W.grownBy W' vb.ownBlock) : Du w W' bs la (lb ++ [b]) va vb' :=
  ⟨h.bel.grown g h.bel.size (fun j hj => (h.ownB.lt j hj).1), fun x hx => ⟨own_far (h.xs x hx).own h.ownB (by decide) g, (h.xs x hx).keys, (h.xs x hx).le⟩, own_far h.ownA h.ownB (by decide) g, by rw [List.length_append, List.flatMap_append]; simpa using own⟩
theorem Du.newX {w W : World} {bs la lb : List Bt} {va vb : Value} {b : Bt} (h : Du w W bs la lb va vb) (x : XIn w W b) : Du w W (bs ++ [b]) la lb va vb :=
  ⟨h.bel, fun y hy => by
    rcases List.mem_append.1 hy with hy | hy
    · exact h.xs y hy
    · simp at hy; subst hy; exact x, h.ownA, h.ownB⟩
theorem Du.inA {w W : World} {bs : List Bt} {va vb : Value} (h : Du w W bs bs bs va vb) : ∃ a c, va = .slice a bs.length c ∧ BtsIn W a bs ∧ bs.length ≤ c ∧ c ≤ maxLen ∧ (a = none → bs.length = 0 ∧ c = 0) ∧ ∀ b off, a = some ⟨b, off, none⟩ → w.heap.size ≤ b ∧ b < W.heap.size ∧ va.ownBlock = some b := by
  obtain ⟨a, c, e, hv, h1, h2, _, h3, h4⟩ := ownsRow_vals h.ownA
  exact ⟨a, c, e, ⟨hv, fun b hb => (h.xs b hb).bt h.bel⟩, h1, h2, h3, h4⟩
theorem Du.inB {w W : World} {bs : List Bt} {va vb : Value} (h : Du w W bs bs bs va vb) : ∃ a c, vb = .slice a bs.length c ∧ BtsIn W a bs := by
  obtain ⟨a, c, e, hv, h1, h2, _, h3, h4⟩ := ownsRow_vals h.ownB
  exact ⟨a, c, e, ⟨hv, fun b hb => (h.xs b hb).bt h.bel⟩⟩
/-- what Short gives -/
def ShortE (w : World) (e : Ending) (w' : World) : Prop := ∃ va vb bs, e = .returned (.tuple #[va, vb]) ∧ bs.length ≤ 5 ∧ Du w w' bs bs bs va vb
/-- the records gathered so far -/
structure GatX (w0 w wr : World) (v : Value) (l : List Fd) : Prop where
  bel : Below w.heap.size w wr
  own : wr.ownsRow w.heap.size 44 6 v l.length (l.flatMap Fd.cells)
  keys : ∀ f ∈ l, KeyIn w0 f
theorem Fd.cells_one (f : Fd) : ∀ u ∈ f.cells, u.oneCell' = true := by
  intro u hu
  simp only [Fd.cells, List.mem_cons, List.not_mem_nil, or_false] at hu
  rcases hu with rfl | rfl | rfl | rfl | rfl | rfl <;> rfl
theorem Bt.cells_one (b : Bt) : ∀ u ∈ b.cells, u.oneCell' = true := by
  intro u hu
  simp only [Bt.cells, List.mem_cons, List.not_mem_nil, or_false] at hu
  rcases hu with rfl | rfl <;> rfl
theorem GatX.alloc {w0 w wr : World} {v : Value} {l : List Fd} (h : GatX w0 w wr v l) (o : Obj) : GatX w0 w (wr.alloc o) v l := ⟨h.bel.alloc h.bel.size o, h.own.alloc _, h.keys⟩
theorem GatX.app {w0 w wr w1 : World} {v v1 : Value} {l : List Fd} {p : Fd} (h : GatX w0 w wr v l) (own1 : w1.ownsRow w.heap.size 44 6 v1 (l.length + 1) (l.flatMap Fd.cells ++ p.cells)) (g : wr.grownBy w1 v.ownBlock) (hk : KeyIn w0 p) : GatX w0 w w1 v1 (l ++ [p]) := by
  refine ⟨h.bel.grown g h.bel.size (fun j hj => (h.own.lt j hj).1), ?_, fun f hf => ?_⟩
  · rw [List.length_append, List.flatMap_append]
    simpa using own1
  · rcases List.mem_append.1 hf with hf | hf
    · exact h.keys f hf
    · simp at hf; subst hf; exact hk
theorem GatX.xin {w w1 wr : World} {v : Value} {l : List Fd} {a : Option Addr} {c : Nat} (h : GatX w w1 wr v l) (hv : v = .slice a l.length c) (hb : Below w.heap.size w w1) (hl : l.length ≤ 8) (seq : Int) : XIn w wr ⟨seq, a, c, l⟩ := by
  subst hv
  exact ⟨own_base h.own hb.size, h.keys, hl⟩
theorem foundinfo : (Try.prog.info? 44).map (fun i => (i.zero, i.size, i.bytes)) = some (some (.agg #[.int .i64 0, .int .i64 0, .int .i64 0, .slice none 0 0, .slice none 0 0, .int .i64 0]), 6, 80) := by kernel_rfl
theorem batchinfo : (Try.prog.info? 34).map (fun i => (i.zero, i.size, i.bytes)) = some (some (.agg #[.int .i64 0, .slice none 0 0]), 2, 32) := by kernel_rfl
theorem rbatchinfo : (Try.prog.info? 46).map (fun i => (i.zero, i.size, i.bytes)) = some (some (.agg #[.int .i64 0, .slice none 0 0]), 2, 32) := by kernel_rfl
/-- a literal's block is none of a row of another type -/
theorem lit_far {w w' : World} {base : Nat} {e : TypeId} {size : Nat} {v : Value} {n : Nat} {xs : List Value} {g : Nat} {cs : Array Value} {t : TypeId} {fr : Nat × Nat} (h : w.ownsRow base e size v n xs) (hg : w.heap[g]? = some (.cells cs t fr)) (hne : t ≠ e) (gr : w.grownBy w' v.ownBlock) : w'.heap[g]? = some (.cells cs t fr) := by
  refine (gr.block g (blk_ltO hg) (fun e => ?_)).trans hg
  rcases h.2 with ⟨rfl, _⟩ | ⟨b, cap, cur, rfl, _, hb, _⟩
  · cases e
  · cases e
    rw [hg] at hb
    injection hb with hb
    injection hb with _ hb _
    exact hne hb
theorem heap_fst (w : World) (o o' : Obj) : ((w.alloc o).alloc o').heap[w.heap.size]? = some o := by
  show ((w.heap.push _).push _)[w.heap.size]? = _
  rw [Array.getElem?_push, Array.size_push, if_neg (by omega), Array.getElem?_push, if_pos rfl]
theorem tAB : 34 ≠ 46 := by decide
theorem tBA : 46 ≠ 34 := by decide
/-- one batch more in the first list: a step of the region -/
theorem step_appA {w w1 : World} {ops : Array Oper} {o : Oper} {a : Act} {K : Act → World → Prop} {Q : Exit → Act → World → Prop} {E : Prop} {bs la lb : List Bt} {va vb : Value} {b : Bt} {g c k xc : Nat} {seq : Int} {xa : Option Addr} {fr : Nat × Nat} (hgd : o.guard = none) (s x : Operand)
    (ho : o.op = .call { callee := .builtin .append, args := #[s, x], argTypes := #[22, 22] })
    (D : Du w w1 bs la lb va vb) (hs : a.eval s = va) (hx : a.eval x = .slice (some ⟨g, 0, none⟩) 1 c) (hg : w1.heap[g]? = some (.cells #[.int .i64 seq, .slice xa k xc] 34 fr)) (hb : b.cells = [.int .i64 seq, .slice xa k xc]) (hl : la.length ≤ 5)
    (h : ∀ v' w', Du w w' bs (la ++ [b]) lb v' vb → (∀ (g' : Nat) (cs : Array Value) (t : TypeId) (fr : Nat × Nat), t ≠ 34 → w1.heap[g']? = some (Obj.cells cs t fr) → w'.heap[g']? = some (Obj.cells cs t fr)) → K (a.put o.dst v') w') :
    if Region.wanted o (yielded ops a.tmps) = true then Oper.wp Try.prog o a w1 K Q else E := by
  obtain ⟨i0, hz, hz0, hz1, hz2⟩ := info_parts batchinfo
  refine step_app hgd s x 22 ho w.heap.size 34 i0 _ 2 32 Try.underlying22 hz hz0 hz1 hz2 rfl (by decide) va la.length (la.flatMap Bt.cells) hs D.ownA _ 1 b.cells hx ?_ b.cells_one (by unfold maxLen; omega) (by omega) D.bel.size ?_
  · rw [hb]; exact src_lit #[.int .i64 seq, .slice xa k xc] fr hg rfl
  · intro v' w' hown hgr
    exact h v' w' (D.appA hown hgr) (fun g' cs t fr hne hg' => lit_far D.ownA hg' hne hgr)
theorem step_appB {w w1 : World} {ops : Array Oper} {o : Oper} {a : Act} {K : Act → World → Prop} {Q : Exit → Act → World → Prop} {E : Prop} {bs la lb : List Bt} {va vb : Value} {b : Bt} {g c k xc : Nat} {seq : Int} {xa : Option Addr} {fr : Nat × Nat} (hgd : o.guard = none) (s x : Operand)
    (ho : o.op = .call { callee := .builtin .append, args := #[s, x], argTypes := #[23, 23] })
    (D : Du w w1 bs la lb va vb) (hs : a.eval s = vb) (hx : a.eval x = .slice (some ⟨g, 0, none⟩) 1 c) (hg : w1.heap[g]? = some (.cells #[.int .i64 seq, .slice xa k xc] 46 fr)) (hb : b.cells = [.int .i64 seq, .slice xa k xc]) (hl : lb.length ≤ 5)
    (h : ∀ v' w', Du w w' bs la (lb ++ [b]) va v' → (∀ (g' : Nat) (cs : Array Value) (t : TypeId) (fr : Nat × Nat), t ≠ 46 → w1.heap[g']? = some (Obj.cells cs t fr) → w'.heap[g']? = some (Obj.cells cs t fr)) → K (a.put o.dst v') w') :
    if Region.wanted o (yielded ops a.tmps) = true then Oper.wp Try.prog o a w1 K Q else E := by
  obtain ⟨i0, hz, hz0, hz1, hz2⟩ := info_parts rbatchinfo
  refine step_app hgd s x 23 ho w.heap.size 46 i0 _ 2 32 Try.underlying23 hz hz0 hz1 hz2 rfl (by decide) vb lb.length (lb.flatMap Bt.cells) hs D.ownB _ 1 b.cells hx ?_ b.cells_one (by unfold maxLen; omega) (by omega) D.bel.size ?_
  · rw [hb]; exact src_lit #[.int .i64 seq, .slice xa k xc] fr hg rfl
  · intro v' w' hown hgr
    exact h v' w' (D.appB hown hgr) (fun g' cs t fr hne hg' => lit_far D.ownB hg' hne hgr)
end Go.Proofs.Ytbfkhghegkiifaa
