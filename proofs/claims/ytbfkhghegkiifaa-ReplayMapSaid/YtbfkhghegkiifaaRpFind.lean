/-
  The reference's Find.
-/
import Derived.Test.YtbfkhghegkiifaaRpMap
import Derived.Deep.RegionLaw
import Derived.Deep.RegionHeld3
namespace Go.Proofs.Ytbfkhghegkiifaa
open Go.RowKit
set_option linter.unusedVariables false
theorem recinfo : (Try.prog.info? 80).map (fun i => (i.zero, i.size, i.bytes)) = some (some (.agg #[.int .i64 0, .int .i64 0, .int .i64 0, .int .i64 0, .slice none 0 0, .slice none 0 0, .int .i64 0]), 7, 88) := by kernel_rfl
def sdC (p : Int × Fd) : List Value := .int .i64 p.1 :: p.2.cells
theorem sdC_len (p : Int × Fd) : (sdC p).length = 7 := rfl
def rowsB (b : Bt) : List (Int × Fd) := b.fs.map fun f => (b.seq, f)
def rows (bs : List Bt) : List (Int × Fd) := bs.flatMap rowsB
def rcP (p : Int × Fd) : Rc := p.2.rc p.1
theorem rows_recs (bs : List Bt) : (rows bs).map rcP = recs bs := by
  unfold rows recs
  rw [List.map_flatMap]
  congr 1
  funext b
  unfold rowsB Bt.rcs
  rw [List.map_map]; rfl
theorem rows_take {bs : List Bt} {i : Nat} {b : Bt} (h : bs[i]? = some b) : rows (bs.take (i + 1)) = rows (bs.take i) ++ rowsB b := by
  rw [take_snoc bs i b h]; unfold rows; rw [List.flatMap_append]; simp
theorem rowsB_take {b : Bt} {j : Nat} {f : Fd} (h : b.fs[j]? = some f) : (rowsB b).take (j + 1) = (rowsB b).take j ++ [(b.seq, f)] := by
  refine take_snoc (rowsB b) j _ ?_
  unfold rowsB
  rw [List.getElem?_map, h]; rfl
theorem rows_mem {bs : List Bt} {p : Int × Fd} (h : p ∈ rows bs) : ∃ b ∈ bs, p.2 ∈ b.fs := by
  unfold rows rowsB at h
  obtain ⟨b, hb, h⟩ := List.mem_flatMap.1 h
  obtain ⟨f, hf, rfl⟩ := List.mem_map.1 h
  exact ⟨b, hb, hf⟩
theorem rows_len {w : World} {bs : List Bt} (h : ∀ b ∈ bs, BtIn w b) : (rows bs).length ≤ 8 * bs.length := by


  induction bs with
  | nil => simp [rows]
  | cons b bs ih =>
    have h1 := (h b (by simp)).le
    have h2 := ih (fun x hx => h x (by simp [hx]))
    unfold rows at h2 ⊢
    rw [List.flatMap_cons, List.length_append, List.length_cons]
    have : (rowsB b).length = b.fs.length := by unfold rowsB; rw [List.length_map]
    omega
theorem sdC_cell (l : List (Int × Fd)) : ∀ u ∈ l.flatMap sdC, u.oneCell' = true := by
  intro u hu
  obtain ⟨p, _, hu⟩ := List.mem_flatMap.1 hu
  simp only [sdC, Fd.cells, List.mem_cons, List.not_mem_nil, or_false] at hu
  rcases hu with rfl | rfl | rfl | rfl | rfl | rfl | rfl <;> rfl
/-- the records gathered so far -/
structure GatR (w wr : World) (v : Value) (l : List (Int × Fd)) : Prop where
  bel : Below w.heap.size w wr
  own : wr.ownsRow w.heap.size 80 7 v l.length (l.flatMap sdC)
theorem GatR.alloc {w wr : World} {v : Value} {l : List (Int × Fd)} (h : GatR w wr v l) (o : Obj) : GatR w (wr.alloc o) v l := ⟨h.bel.alloc h.bel.size o, h.own.alloc _⟩
theorem GatR.app {w wr w1 : World} {v v1 : Value} {l : List (Int × Fd)} {p : Int × Fd} {o : Obj} (h : GatR w wr v l) (own1 : w1.ownsRow w.heap.size 80 7 v1 (l.length + 1) (l.flatMap sdC ++ sdC p)) (g : (wr.alloc o).grownBy w1 v.ownBlock) : GatR w w1 v1 (l ++ [p]) := by
  refine ⟨(h.bel.alloc h.bel.size o).grown g (h.bel.alloc h.bel.size o).size (fun j hj => (h.own.lt j hj).1), ?_⟩
  rw [List.length_append, List.flatMap_append]
  simpa using own1
/-- a box beside the row -/
theorem GatR.ne {w wr : World} {v : Value} {l : List (Int × Fd)} {bx : Nat} {cs : Array Value} {fr : Nat × Nat} (h : GatR w wr v l) (hb : wr.heap[bx]? = some (.cells cs 46 fr)) : some bx ≠ v.ownBlock := by
  intro e
  rcases h.own.2 with ⟨rfl, _⟩ | ⟨g, cap, cur, rfl, _, hg, _⟩
  · cases e
  · cases e
    rw [hb] at hg
    injection hg with hg
    injection hg with _ hg _
    exact absurd hg (by decide)
/-- what Find gives -/
def RFindE (w : World) (bs : List Bt) (key : ByteArray) (now : Int) (e : Ending) (w' : World) : Prop :=
  ∃ x b, e = .returned (.tuple #[entV x, .bool b]) ∧ Below w.heap.size w w' ∧ (b = true → after (recs bs) key = some x ∧ liveE now x = true) ∧ (b = false → ∀ y, after (recs bs) key = some y → liveE now y = false)
theorem set5_belowF {w w2 : World} (hb : Below w.heap.size w w2) (x : Ent) : Below w.heap.size w (set5 w2 w.heap.size x) := by
  have hf : Fr (fun j => j = w.heap.size) w2 (set5 w2 w.heap.size x) := by
    unfold set5
    exact ((((fr_set _ _ _ _).trans (fr_set _ _ _ _) (fun j hj => .inl hj)).trans (fr_set _ _ _ _) (fun j hj => .inl hj)).trans (fr_set _ _ _ _) (fun j hj => .inl hj)).trans (fr_set _ _ _ _) (fun j hj => .inl hj)
  exact Fr.below hb hf hb.size (fun j hj => by rw [hj]; exact Nat.le_refl _)
theorem rfind_none {w W : World} {bs : List Bt} {key : ByteArray} {now : Int} (hb : Below w.heap.size w W) (h : after (recs bs) key = none) : RFindE w bs key now (.returned (.tuple #[entV ent0, .bool false])) (set5 W w.heap.size ent0) :=
  ⟨ent0, false, rfl, set5_belowF hb _, (fun e => by cases e), fun _ y hy => by rw [h] at hy; cases hy⟩
theorem rfind_some {w W : World} {bs : List Bt} {key : ByteArray} {now : Int} {x : Ent} (hb : Below w.heap.size w W) (h : after (recs bs) key = some x) : RFindE w bs key now (.returned (.tuple #[entV x, .bool (liveE now x)])) (set5 W w.heap.size x) :=
  ⟨x, _, rfl, set5_belowF hb _, fun e => ⟨h, e⟩, fun e y hy => by rw [h] at hy; injection hy with hy; rw [← hy]; exact e⟩
theorem rfind_noneA {w W : World} {bs : List Bt} {key : ByteArray} {now : Int} (hb : Below w.heap.size w W) (o : Obj) (h : after (recs bs) key = none) : RFindE w bs key now (.returned (.tuple #[entV ent0, .bool false])) ((set5 W w.heap.size ent0).alloc o) := by
  obtain ⟨x, b, h1, h2, h3⟩ := rfind_none (now := now) hb h
  exact ⟨x, b, h1, h2.alloc h2.size o, h3⟩
theorem set5_cellsA {w : World} {b : Nat} {a0 a1 a2 a3 a4 : Value} (h : w.heap[b]? = some (.cells #[a0, a1, a2, a3, a4] 36 (0, 0))) (x : Ent) (o : Obj) : ((set5 w b x).alloc o).cell? ⟨b, 0, none⟩ = some (.int .i64 x.seq) ∧ ((set5 w b x).alloc o).cell? ⟨b, 1, none⟩ = some (.int .i64 x.off) ∧ ((set5 w b x).alloc o).cell? ⟨b, 2, none⟩ = some (.int .i64 x.len) ∧ ((set5 w b x).alloc o).cell? ⟨b, 3, none⟩ = some (.int .i64 x.exp) ∧ ((set5 w b x).alloc o).cell? ⟨b, 4, none⟩ = some (.bool x.hit) := by
  obtain ⟨r0, r1, r2, r3, r4⟩ := set5_cells h x
  have hb : Below (set5 w b x).heap.size (set5 w b x) ((set5 w b x).alloc o) := (Below.refl _ _).alloc (Nat.le_refl _) o
  have k : ∀ i v, (set5 w b x).cell? ⟨b, i, none⟩ = some v → ((set5 w b x).alloc o).cell? ⟨b, i, none⟩ = some v := fun i v hv => by
    rw [hb.cell (p := ⟨b, i, none⟩) (World.block_lt_of_cell? _ _ hv)]; exact hv
  exact ⟨k _ _ r0, k _ _ r1, k _ _ r2, k _ _ r3, k _ _ r4⟩
theorem rfind_someD {w W : World} {bs : List Bt} {key : ByteArray} {now : Int} {x : Ent} (hb : Below w.heap.size w W) (h : after (recs bs) key = some x) : RFindE w bs key now (.returned (.tuple #[entV x, .bool (liveE now x)])) (set5 W w.heap.size x).drew := by
  obtain ⟨y, b, h1, h2, h3⟩ := rfind_some (now := now) hb h
  exact ⟨y, b, h1, h2.drew, h3⟩
theorem set5_cellsP {w w5 : World} {b : Nat} {a0 a1 a2 a3 a4 : Value} (h : w.heap[b]? = some (.cells #[a0, a1, a2, a3, a4] 36 (0, 0))) (p : Int × Fd) (h5 : (set5 w b (rcP p).ent).drew = w5) : w5.cell? ⟨b, 0, none⟩ = some (.int .i64 p.1) ∧ w5.cell? ⟨b, 1, none⟩ = some (.int .i64 p.2.off) ∧ w5.cell? ⟨b, 2, none⟩ = some (.int .i64 p.2.len) ∧ w5.cell? ⟨b, 3, none⟩ = some (.int .i64 p.2.exp) ∧ w5.cell? ⟨b, 4, none⟩ = some (.bool false) := by
  have h := set5_cells h (rcP p).ent
  generalize set5 w b (rcP p).ent = W at h h5
  subst h5
  exact h
/-- one record's cells in the row -/
theorem sd_at {w : World} {a : Option Addr} {l : List (Int × Fd)} (h : Vals w a (l.flatMap sdC)) (i : Nat) (p : Int × Fd) (hp : l[i]? = some p) :
    ∃ b off, a = some ⟨b, off, none⟩ ∧ b < w.heap.size ∧ w.cell? ⟨b, off + i * 7, none⟩ = some (.int .i64 p.1) ∧ w.cell? ⟨b, off + i * 7 + 1, none⟩ = some (.int .i64 p.2.off) ∧ w.cell? ⟨b, off + i * 7 + 2, none⟩ = some (.int .i64 p.2.len) ∧ w.cell? ⟨b, off + i * 7 + 3, none⟩ = some (.int .i64 p.2.kind) ∧
      w.cell? ⟨b, off + i * 7 + 4, none⟩ = some (.slice p.2.ka p.2.key.size p.2.kc) ∧ w.cell? ⟨b, off + i * 7 + 5, none⟩ = some (.slice none 0 0) ∧ w.cell? ⟨b, off + i * 7 + 6, none⟩ = some (.int .i64 p.2.exp) := by
  obtain ⟨b, off, ha, hb, hc⟩ := h.row sdC_len (by omega) i p hp
  exact ⟨b, off, ha, hb, hc 0 (by omega), hc 1 (by omega), hc 2 (by omega), hc 3 (by omega), hc 4 (by omega), hc 5 (by omega), hc 6 (by omega)⟩
theorem findL_snoc (l : List Rc) (r : Rc) (k : ByteArray) : findL (l ++ [r]).reverse k = if r.kind = 3 ∨ (r.kind = 2 ∧ r.key = k) then none else if r.kind = 1 ∧ r.key = k then some r.ent else findL l.reverse k := by
  rw [List.reverse_append, List.reverse_singleton, List.singleton_append]; rfl
set_option maxRecDepth 100000 in
set_option maxHeartbeats 8000000 in
theorem rfind18 (a : Option Addr) (len cap : Nat) (bs : List Bt) (key : ByteArray) (now : Int) (w : World) (hlen : bs.length = len) (h11 : len ≤ 11) (hb : BtsIn w a bs) :
    Calls Try.prog 18 #[.slice a len cap, .string key, .int .i64 now] w (RFindE w bs key now) := by
  have RL8 := rows_len hb.bts
  have hbw : Below w.heap.size w (w.alloc (.cells #[.int .i64 0, .int .i64 0, .int .i64 0, .int .i64 0, .bool false] 36)) := (Below.refl _ _).alloc (Nat.le_refl _) _
  have HB := Lib.hid (hb.below hbw)
  have BW := Lib.hid hbw
  have hx0 : (w.alloc (.cells #[.int .i64 0, .int .i64 0, .int .i64 0, .int .i64 0, .bool false] 36)).heap[w.heap.size]? = some (.cells #[.int .i64 0, .int .i64 0, .int .i64 0, .int .i64 0, .bool false] 36 (0, 0)) := by
    show (w.heap.push _)[w.heap.size]? = _
    simp
  have HX0 := Lib.hid hx0
  have HL := Lib.hid hlen
  obtain ⟨i0, hz, hz0, hz1, hz2⟩ := info_parts recinfo
  have I1 := Lib.hid hz; have I2 := Lib.hid hz0; have I3 := Lib.hid hz1; have I4 := Lib.hid hz2
  clear hb hlen hx0 hz hz0 hz1 hz2 hbw
  go_enter Try.func18, Try.ntmps18
  go_wp2_with fail
  obtain ⟨w1, hw1⟩ : ∃ w1, w.alloc (.cells #[.int .i64 0, .int .i64 0, .int .i64 0, .int .i64 0, .bool false] 36) = w1 := ⟨_, rfl⟩
  rw [hw1] at HB BW HX0 ⊢
  have hws : w1.heap.size = w.heap.size + 1 := by rw [← hw1]; simp
  clear hw1
  go_loopg [8, 10, 12, 18] len (fun gk lv _ _ iv wr => ∃ (i : Nat) (v : Value), i ≤ len ∧ v = lv ∧ iv = .int .i64 i ∧ gk + i = len ∧ GatR w1 wr v (rows (bs.take i)))
  case atStart => exact ⟨0, _, by omega, rfl, rfl, by omega, ⟨Below.refl _ _, by simpa [rows] using own_nil _ _ _ _⟩⟩
  case round =>
    obtain ⟨i, v, hi, rfl, rfl, hgk, ga⟩ := hrel
    have GA := Lib.hid ga
    have GK := Lib.hid hgk
    clear ga hgk
    by_cases hlt : i < len
    · obtain ⟨x, hx⟩ : ∃ x, bs[i]? = some x := ⟨_, List.getElem?_eq_getElem (by have := HL.out; omega)⟩
      obtain ⟨b, off, rfl, hb, c0, c1, xin⟩ := (HB.out.below GA.out.bel).at i x hx
      have hii : (i : Int) < len := by omega
      have HX := Lib.hid hx
      have XIN := Lib.hid (HB.out.bts x (List.mem_of_getElem? hx))
      obtain ⟨n, hn⟩ : ∃ n, x.fs.length = n := ⟨_, rfl⟩
      have hn8 : n ≤ 8 := by rw [← hn]; exact xin.le
      obtain ⟨ax, hax⟩ : ∃ ax, x.a = ax := ⟨_, rfl⟩
      rw [hn, hax] at c1
      have HAX := Lib.hid hax
      have HN := Lib.hid hn
      have hr8 : (rows (bs.take i)).length ≤ 8 * i := by
        have := rows_len (w := w1) (bs := bs.take i) (fun y hy => HB.out.bts y (List.mem_of_mem_take hy))
        rw [List.length_take] at this
        omega
      have GA2 := Lib.hid (GA.out.alloc (.cells #[.int .i64 x.seq, .slice ax n x.c] 46))
      clear hx xin hn hax
      go_wp2_with fail
      obtain ⟨bx, hbx⟩ : ∃ bx, wr.heap.size = bx := ⟨_, rfl⟩
      have hbl : (wr.alloc (.cells #[.int .i64 x.seq, .slice ax n x.c] 46)).heap[bx]? = some (.cells #[.int .i64 x.seq, .slice ax n x.c] 46 (0, 0)) := by
        rw [← hbx]
        show (wr.heap.push _)[wr.heap.size]? = _
        simp
      have HBL := Lib.hid hbl
      rw [hbx]
      clear hbx hbl
      go_loopg [8, 12, 25] n (fun gk lv _ jv wr' => ∃ (j : Nat) (v : Value), j ≤ n ∧ v = lv ∧ jv = .int .i64 j ∧ gk + j = n ∧ GatR w1 wr' v (rows (bs.take i) ++ (rowsB x).take j) ∧ wr'.heap[bx]? = some (.cells #[.int .i64 x.seq, .slice ax n x.c] 46 (0, 0)))
      case atStart => exact ⟨0, v, by omega, rfl, rfl, by omega, by simpa using GA2.out, HBL.out⟩
      case round =>
        obtain ⟨j, v, hj, rfl, rfl, hgk2, ga', hbl⟩ := hrel
        have GA' := Lib.hid ga'
        have GK2 := Lib.hid hgk2
        have HBL' := Lib.hid hbl
        have g0 := blk_cell (i := 0) hbl
        have hgl := blk_lt hbl
        simp only [List.getElem?_toArray, List.getElem?_cons_zero] at g0
        have XJ := XIN.out.below ga'.bel
        clear ga' hgk2 HBL hbl
        by_cases hlt2 : j < n
        · obtain ⟨f, hf⟩ : ∃ f, x.fs[j]? = some f := ⟨_, List.getElem?_eq_getElem (by have := HN.out; omega)⟩
          obtain ⟨b2, off2, hab, hb2, d0, d1, d2, d3, d4, d5, kin⟩ := XJ.at j f hf
          rw [HAX.out] at hab
          subst hab
          have hjj : (j : Int) < n := by omega
          obtain ⟨ks, hks⟩ : ∃ ks, f.key.size = ks := ⟨_, rfl⟩
          rw [hks] at d3
          have RT := Lib.hid (rowsB_take hf)
          obtain ⟨m, hm⟩ : ∃ m, (rows (bs.take i) ++ (rowsB x).take j).length = m := ⟨_, rfl⟩
          have hmk : m ≤ 8 * i + j := by
            rw [← hm, List.length_append, List.length_take]; omega
          have HM' := Lib.hid hm
          have GA3 := Lib.hid (GA'.out.alloc (.cells #[.int .i64 f.off, .int .i64 f.len, .int .i64 f.kind, .slice f.ka ks f.kc, .slice none 0 0, .int .i64 f.exp] 44))
          have OWH := Lib.hid (show (wr.alloc (.cells #[.int .i64 f.off, .int .i64 f.len, .int .i64 f.kind, .slice f.ka ks f.kc, .slice none 0 0, .int .i64 f.exp] 44)).ownsRow w1.heap.size 80 7 v m ((rows (bs.take i) ++ (rowsB x).take j).flatMap sdC) from by
            have := GA3.out.own
            rw [HM'.out] at this
            exact this)
          have HKS := Lib.hid hks
          clear hf kin hm hks XJ
          go_wp2_with (at_builtin; refine Stop.out ?_)
          refine Stop.of (wpList_app rfl _ _ 78 rfl w1.heap.size 80 i0 (.agg #[.int .i64 0, .int .i64 0, .int .i64 0, .int .i64 0, .slice none 0 0, .slice none 0 0, .int .i64 0]) 7 88 Try.underlying78 I1.out I2.out I3.out I4.out rfl (by decide) v m ((rows (bs.take i) ++ (rowsB x).take j).flatMap sdC) rfl (OWH.out.alloc _) _ 1 [.int .i64 x.seq, .int .i64 f.off, .int .i64 f.len, .int .i64 f.kind, .slice f.ka ks f.kc, .slice none 0 0, .int .i64 f.exp] rfl (src_lit #[.int .i64 x.seq, .int .i64 f.off, .int .i64 f.len, .int .i64 f.kind, .slice f.ka ks f.kc, .slice none 0 0, .int .i64 f.exp] (0, 0) (heap_two _ _ _) rfl) (by
            have := sdC_cell [(x.seq, f)]
            simpa [sdC, Fd.cells, HKS.out] using this) (by unfold maxLen; omega) (by omega) (by have := GA3.out.bel.size; simp at this ⊢; omega) ?_)
          intro v2 w3 hown3 hg3
          have G3 := Lib.hid (GA3.out.app (p := (x.seq, f)) (by rw [HM'.out]; simpa [sdC, Fd.cells, HKS.out] using hown3) hg3)
          have HB3 := Lib.hid (show w3.heap[bx]? = some (.cells #[.int .i64 x.seq, .slice (some ⟨b2, off2, none⟩) n x.c] 46 (0, 0)) from by
            have hne := GA'.out.ne HBL'.out
            refine (hg3.block bx (by simp; omega) hne).trans ?_
            exact (Below.heap_alloc _ _ _ (by simp; omega)).trans ((Below.heap_alloc _ _ _ hgl).trans HBL'.out))
          clear hown3 hg3 d0 d1 d2 d3 d4 d5 hb2
          go_wp2_with fail
          go_roundg (n - (j + 1))
          case measure => have := GK2.out; omega
          case rel => exact ⟨j + 1, _, by omega, rfl, by go_num, by omega, by rw [RT.out, ← List.append_assoc]; exact G3.out, HB3.out⟩
        · obtain rfl : n = j := by omega
          have GA3 := Lib.hid (show GatR w1 wr v (rows (bs.take (i + 1))) from by
            have := GA'.out
            rw [List.take_of_length_le (l := rowsB x) (by unfold rowsB; rw [List.length_map]; have := HN.out; omega)] at this
            rw [rows_take HX.out]; exact this)
          go_wp2_with fail
          go_roundg (len - (i + 1))
          case measure => have := GK.out; omega
          case rel => exact ⟨i + 1, _, by omega, rfl, by go_num, by omega, GA3.out⟩
    · obtain rfl : len = i := by omega
      have GF := Lib.hid (show GatR w1 wr v (rows bs) from by
        have := GA.out
        rw [List.take_of_length_le (by have := HL.out; omega)] at this
        exact this)
      clear GA GK
      obtain ⟨m, hm⟩ : ∃ m, (rows bs).length = m := ⟨_, rfl⟩
      have own := GF.out.own
      rw [hm] at own RL8
      obtain ⟨la, lc, rfl, hv, hle, hmax, _⟩ := ownsRow_vals own
      have HV := Lib.hid hv
      have HM := Lib.hid hm
      unfold maxLen at hmax
      clear own hv hm
      obtain ⟨w2, hw2⟩ : ∃ w2, wr = w2 := ⟨_, rfl⟩
      have BW2 := Lib.hid (show Below w1.heap.size w1 w2 from by rw [← hw2]; exact GF.out.bel)
      rw [hw2] at HV ⊢
      clear hw2 GF
      have F0 := Lib.hid (show findL (((rows bs).take m).map rcP).reverse key = after (recs bs) key from by
        rw [List.take_of_length_le (by have := HM.out; omega), rows_recs, findL_after])
      go_wp2_with fail
      go_loopg [13, 14, 15] m (fun gk iv _ _ wr => ∃ k : Nat, k ≤ m ∧ iv = .int .i64 ((k : Int) - 1) ∧ gk = k ∧ Below w2.heap.size w2 wr ∧ Hid (findL (((rows bs).take k).map rcP).reverse key = after (recs bs) key))
      case atStart => exact ⟨m, by omega, rfl, rfl, Below.refl _ _, F0⟩
      case round =>
        obtain ⟨k, hk, rfl, hgk, hbel, FK⟩ := hrel
        have GK := Lib.hid hgk
        clear hgk
        have BEL := Lib.hid hbel
        have X1 := Lib.hid (show wr.heap[w.heap.size]? = some (.cells #[.int .i64 0, .int .i64 0, .int .i64 0, .int .i64 0, .bool false] 36 (0, 0)) from by
          have hlt := blk_lt HX0.out
          have h1 := (BW2.out.block w.heap.size hlt).trans HX0.out
          exact (hbel.block w.heap.size (blk_lt h1)).trans h1)
        have BF := Lib.hid (show Below w.heap.size w wr from bel_trans BW.out (bel_trans BW2.out hbel))
        have B1 := Lib.hid (show Below w1.heap.size w1 wr from bel_trans BW2.out hbel)
        clear hbel F0
        by_cases hk0 : k = 0
        · subst hk0
          have AF := Lib.hid (show after (recs bs) key = none from by
            have := FK.out
            simp [findL] at this
            exact this.symm)
          have x0 := blk_cell (i := 0) X1.out; have x1 := blk_cell (i := 1) X1.out; have x2 := blk_cell (i := 2) X1.out; have x3 := blk_cell (i := 3) X1.out; have x4 := blk_cell (i := 4) X1.out
          have y0 := blk_free (i := 0) X1.out; have y1 := blk_free (i := 1) X1.out; have y2 := blk_free (i := 2) X1.out; have y3 := blk_free (i := 3) X1.out; have y4 := blk_free (i := 4) X1.out
          have hxl := blk_lt X1.out
          simp only [List.getElem?_toArray, List.getElem?_cons_zero, List.getElem?_cons_succ] at x0 x1 x2 x3 x4
          go_wp2_with fail
          obtain ⟨w3, hw3⟩ : ∃ w3, set5 wr w.heap.size ent0 = w3 := ⟨_, rfl⟩
          obtain ⟨r0, r1, r2, r3, r4⟩ := set5_cells X1.out ent0
          have GE := Lib.hid (rfind_none (now := now) BF.out AF.out)
          have hw3' := hw3
          simp only [set5, ent0] at hw3'
          rw [hw3] at r0 r1 r2 r3 r4 GE
          rw [hw3']
          refine bodyPost_ret (v := .tuple #[entV ent0, .bool false]) (by simp [results, Try.results18, go_sem, r0, r1, r2, r3, r4]; try rfl) rfl ?_
          exact GE.out
        · obtain ⟨k', rfl⟩ : ∃ k', k = k' + 1 := ⟨k - 1, by omega⟩
          have hsub : ((k' + 1 : Nat) : Int) - 1 = (k' : Int) := by omega
          rw [hsub]
          obtain ⟨p, hp⟩ : ∃ p, (rows bs)[k']? = some p := ⟨_, List.getElem?_eq_getElem (by have := HM.out; omega)⟩
          obtain ⟨g, off, rfl, hg, c0, c1, c2, c3, c4, c5, c6⟩ := sd_at (HV.out.below BEL.out (Nat.le_refl _)) k' p hp
          obtain ⟨x, hx, hxf⟩ := rows_mem (List.mem_of_getElem? hp)
          have kin := ((HB.out.bts x hx).keys p.2 hxf).below B1.out
          have FS := Lib.hid (show (if p.2.kind = 3 ∨ (p.2.kind = 2 ∧ p.2.key = key) then none else if p.2.kind = 1 ∧ p.2.key = key then some (rcP p).ent else findL (((rows bs).take k').map rcP).reverse key) = after (recs bs) key from by
            have := FK.out
            rw [take_snoc (rows bs) k' p hp, List.map_append, List.map_singleton, findL_snoc] at this
            exact this)
          obtain ⟨ks, hks⟩ : ∃ ks, p.2.key.size = ks := ⟨_, rfl⟩
          rw [hks] at c4
          have CV : (convert 40 9 (.slice p.2.ka ks p.2.kc)).run Try.prog (wr.alloc (.cells #[.int .i64 p.2.kind, .slice p.2.ka ks p.2.kc, .slice none 0 0, .int .i64 p.2.exp] 42)) = .ok (.string p.2.key) (wr.alloc (.cells #[.int .i64 p.2.kind, .slice p.2.ka ks p.2.kc, .slice none 0 0, .int .i64 p.2.exp] 42)) := by
            rw [← hks]
            exact vals_conv (kin.vals.below ((Below.refl _ _).alloc (Nat.le_refl _) _) (Nat.le_refl _))
          have hkm : (k' : Int) < m := by omega
          have k0 : ¬ (k' : Int) < 0 := by omega
          have B3 := Lib.hid (BEL.out.alloc BEL.out.size (.cells #[.int .i64 p.2.kind, .slice p.2.ka ks p.2.kc, .slice none 0 0, .int .i64 p.2.exp] 42))
          have BF3 := Lib.hid (BF.out.alloc BF.out.size (.cells #[.int .i64 p.2.kind, .slice p.2.ka ks p.2.kc, .slice none 0 0, .int .i64 p.2.exp] 42))
          clear kin hp hx hxf hks FK
          have X2 := Lib.hid (show (wr.alloc (.cells #[.int .i64 p.2.kind, .slice p.2.ka ks p.2.kc, .slice none 0 0, .int .i64 p.2.exp] 42)).heap[w.heap.size]? = some (.cells #[.int .i64 0, .int .i64 0, .int .i64 0, .int .i64 0, .bool false] 36 (0, 0)) from (Below.heap_alloc _ _ _ (blk_lt X1.out)).trans X1.out)
          have x0 := blk_cell (i := 0) X1.out; have x1 := blk_cell (i := 1) X1.out; have x2 := blk_cell (i := 2) X1.out; have x3 := blk_cell (i := 3) X1.out; have x4 := blk_cell (i := 4) X1.out
          have y0 := blk_free (i := 0) X1.out; have y1 := blk_free (i := 1) X1.out; have y2 := blk_free (i := 2) X1.out; have y3 := blk_free (i := 3) X1.out; have y4 := blk_free (i := 4) X1.out
          have hxl := blk_lt X1.out
          simp only [List.getElem?_toArray, List.getElem?_cons_zero, List.getElem?_cons_succ] at x0 x1 x2 x3 x4
          by_cases hk3 : p.2.kind = 3
          · have hb3 : (p.2.kind == 3) = true := by rw [hk3]; rfl
            have AF := Lib.hid (show after (recs bs) key = none from by
              have := FS.out
              rw [if_pos (.inl hk3)] at this
              exact this.symm)
            clear hk3
            go_wp2_with fail
            obtain ⟨w3, hw3⟩ : ∃ w3, (set5 wr w.heap.size ent0).alloc (.cells #[.int .i64 p.2.kind, .slice p.2.ka ks p.2.kc, .slice none 0 0, .int .i64 p.2.exp] 42) = w3 := ⟨_, rfl⟩
            obtain ⟨r0, r1, r2, r3, r4⟩ := set5_cellsA X1.out ent0 (.cells #[.int .i64 p.2.kind, .slice p.2.ka ks p.2.kc, .slice none 0 0, .int .i64 p.2.exp] 42)
            have GE := Lib.hid (rfind_noneA (now := now) BF.out (.cells #[.int .i64 p.2.kind, .slice p.2.ka ks p.2.kc, .slice none 0 0, .int .i64 p.2.exp] 42) AF.out)
            have hw3' := hw3
            simp only [set5, ent0] at hw3'
            rw [hw3] at r0 r1 r2 r3 r4 GE
            rw [hw3']
            refine bodyPost_ret (v := .tuple #[entV ent0, .bool false]) (by simp [results, Try.results18, go_sem, r0, r1, r2, r3, r4]; try rfl) rfl ?_
            exact GE.out
          · have hb3 : (p.2.kind == 3) = false := by simp [hk3]
            by_cases hk2 : p.2.kind = 2
            · have hb2 : (p.2.kind == 2) = true := by rw [hk2]; rfl
              have hb1 : (p.2.kind == 1) = false := by rw [hk2]; rfl
              by_cases hkk : p.2.key = key
              · have hbk : (p.2.key.toList == key.toList) = true := by rw [hkk]; simp
                have AF := Lib.hid (show after (recs bs) key = none from by
                  have := FS.out
                  rw [if_pos (.inr ⟨hk2, hkk⟩)] at this
                  exact this.symm)
                clear hk2 hk3 hkk
                go_wp2_with fail
                obtain ⟨w3, hw3⟩ : ∃ w3, (set5 wr w.heap.size ent0).alloc (.cells #[.int .i64 p.2.kind, .slice p.2.ka ks p.2.kc, .slice none 0 0, .int .i64 p.2.exp] 42) = w3 := ⟨_, rfl⟩
                obtain ⟨r0, r1, r2, r3, r4⟩ := set5_cellsA X1.out ent0 (.cells #[.int .i64 p.2.kind, .slice p.2.ka ks p.2.kc, .slice none 0 0, .int .i64 p.2.exp] 42)
                have GE := Lib.hid (rfind_noneA (now := now) BF.out (.cells #[.int .i64 p.2.kind, .slice p.2.ka ks p.2.kc, .slice none 0 0, .int .i64 p.2.exp] 42) AF.out)
                have hw3' := hw3
                simp only [set5, ent0] at hw3'
                rw [hw3] at r0 r1 r2 r3 r4 GE
                rw [hw3']
                refine bodyPost_ret (v := .tuple #[entV ent0, .bool false]) (by simp [results, Try.results18, go_sem, r0, r1, r2, r3, r4]; try rfl) rfl ?_
                exact GE.out
              · have hbk : (p.2.key.toList == key.toList) = false := by
                  simp only [beq_eq_false_iff_ne, ne_eq]
                  exact fun e => hkk (toList_inj e)
                have FK := Lib.hid (show findL (((rows bs).take k').map rcP).reverse key = after (recs bs) key from by
                  have := FS.out
                  rw [if_neg (by simp [hk2, hkk]), if_neg (by simp [hk2])] at this
                  exact this)
                clear hk2 hk3 hkk
                go_wp2_with fail
                go_roundg k'
                case measure => have := GK.out; omega
                case rel => exact ⟨k', by omega, by go_num, rfl, B3.out, FK⟩
            · have hb2 : (p.2.kind == 2) = false := by simp [hk2]
              by_cases hk1 : p.2.kind = 1
              · have hb1 : (p.2.kind == 1) = true := by rw [hk1]; rfl
                by_cases hkk : p.2.key = key
                · have hbk : (p.2.key.toList == key.toList) = true := by rw [hkk]; simp
                  have AF := Lib.hid (show after (recs bs) key = some (rcP p).ent from by
                    have := FS.out
                    rw [if_neg (by simp [hk1]), if_pos ⟨hk1, hkk⟩] at this
                    exact this.symm)
                  clear hk1 hk2 hk3 hkk
                  go_wp2_with fail
                  go_region_held3 (fun w' => w'.cell? ⟨g, off + k' * 7, none⟩ = some (.int .i64 p.1) ∧ w'.cell? ⟨g, off + k' * 7 + 1, none⟩ = some (.int .i64 p.2.off) ∧ w'.cell? ⟨g, off + k' * 7 + 2, none⟩ = some (.int .i64 p.2.len) ∧ w'.cell? ⟨wr.heap.size, 3, none⟩ = some (.int .i64 p.2.exp)) (go_keep) (fail)
                  go_wp2_with fail
                  obtain ⟨w4, hw4⟩ : ∃ w4, ((wr.alloc (.cells #[.int .i64 p.2.kind, .slice p.2.ka ks p.2.kc, .slice none 0 0, .int .i64 p.2.exp] 42)).alloc (.cells #[.int .i64 p.1, .int .i64 p.2.off, .int .i64 p.2.len, .int .i64 p.2.exp, .bool false] 36)).drew = w4 := ⟨_, rfl⟩
                  have X4 := Lib.hid (show w4.heap[w.heap.size]? = some (.cells #[.int .i64 0, .int .i64 0, .int .i64 0, .int .i64 0, .bool false] 36 (0, 0)) from by
                    rw [← hw4]
                    exact (Below.heap_alloc _ _ _ (by simp; omega)).trans X2.out)
                  have E4 := Lib.hid (show w4.heap[wr.heap.size + 1]? = some (.cells #[.int .i64 p.1, .int .i64 p.2.off, .int .i64 p.2.len, .int .i64 p.2.exp, .bool false] 36 (0, 0)) from by
                    rw [← hw4]
                    exact heap_two _ _ _)
                  have BF4 := Lib.hid (show Below w.heap.size w w4 from by
                    rw [← hw4]
                    exact (BF3.out.alloc BF3.out.size _).drew)
                  have e0 := blk_cell (i := 0) E4.out; have e1 := blk_cell (i := 1) E4.out; have e2 := blk_cell (i := 2) E4.out; have e3 := blk_cell (i := 3) E4.out; have e4 := blk_cell (i := 4) E4.out
                  clear x0 x1 x2 x3 x4 y0 y1 y2 y3 y4 c0 c1 c2 c3 c4 c5 c6
                  have x0 := blk_cell (i := 0) X4.out; have x1 := blk_cell (i := 1) X4.out; have x2 := blk_cell (i := 2) X4.out; have x3 := blk_cell (i := 3) X4.out; have x4 := blk_cell (i := 4) X4.out
                  have y0 := blk_free (i := 0) X4.out; have y1 := blk_free (i := 1) X4.out; have y2 := blk_free (i := 2) X4.out; have y3 := blk_free (i := 3) X4.out; have y4 := blk_free (i := 4) X4.out
                  have hx4 := blk_lt X4.out
                  have hne : wr.heap.size + 1 ≠ w.heap.size := by omega
                  simp only [List.getElem?_toArray, List.getElem?_cons_zero, List.getElem?_cons_succ] at x0 x1 x2 x3 x4 e0 e1 e2 e3 e4
                  rw [hw4]
                  clear hw4 X2 B3
                  have GE4 := Lib.hid (fun b (hb : liveE now (rcP p).ent = b) => show RFindE w bs key now (.returned (.tuple #[entV (rcP p).ent, .bool b])) (set5 w4 w.heap.size (rcP p).ent).drew from hb ▸ rfind_someD BF4.out AF.out)
                  have RC := Lib.hid (fun w5 (h : (set5 w4 w.heap.size (rcP p).ent).drew = w5) => set5_cellsP X4.out p h)
                  by_cases h0 : p.2.exp = 0
                  · have hb0 : (p.2.exp == 0) = true := by rw [h0]; rfl
                    have GE := Lib.hid (GE4.out true (by unfold liveE rcP Fd.rc Rc.ent; simp [h0]))
                    clear h0
                    go_region
                    go_wp2_with fail
                    obtain ⟨w5, hw5⟩ : ∃ w5, (set5 w4 w.heap.size (rcP p).ent).drew = w5 := ⟨_, rfl⟩
                    obtain ⟨r0, r1, r2, r3, r4⟩ := RC.out w5 hw5
                    have hw5' := hw5
                    simp only [set5, rcP, Fd.rc, Rc.ent] at hw5'
                    rw [hw5] at GE
                    rw [hw5']
                    refine bodyPost_ret (v := .tuple #[entV (rcP p).ent, .bool true]) (by simp [results, Try.results18, go_sem, r0, r1, r2, r3, r4]; exact ⟨rfl, rfl, rfl, rfl, rfl⟩) rfl ?_
                    exact GE.out
                  · have hb0 : (p.2.exp == 0) = false := by simp [h0]
                    by_cases h1 : now < p.2.exp
                    · have GE := Lib.hid (GE4.out true (by unfold liveE rcP Fd.rc Rc.ent; simp [h1]))
                      have hd1 : decide (now < p.2.exp) = true := by simp [h1]
                      clear h0
                      go_region
                      go_wp2_with fail
                      obtain ⟨w5, hw5⟩ : ∃ w5, (set5 w4 w.heap.size (rcP p).ent).drew = w5 := ⟨_, rfl⟩
                      obtain ⟨r0, r1, r2, r3, r4⟩ := RC.out w5 hw5
                      have hw5' := hw5
                      simp only [set5, rcP, Fd.rc, Rc.ent] at hw5'
                      rw [hw5] at GE
                      rw [hw5']
                      refine bodyPost_ret (v := .tuple #[entV (rcP p).ent, .bool true]) (by simp [results, Try.results18, go_sem, r0, r1, r2, r3, r4]; exact ⟨rfl, rfl, rfl, rfl, rfl⟩) rfl ?_
                      exact GE.out
                    · have GE := Lib.hid (GE4.out false (by unfold liveE rcP Fd.rc Rc.ent; simp [h0, h1]))
                      have hd1 : decide (now < p.2.exp) = false := by simp [h1]
                      clear h0
                      go_region
                      go_wp2_with fail
                      obtain ⟨w5, hw5⟩ : ∃ w5, (set5 w4 w.heap.size (rcP p).ent).drew = w5 := ⟨_, rfl⟩
                      obtain ⟨r0, r1, r2, r3, r4⟩ := RC.out w5 hw5
                      have hw5' := hw5
                      simp only [set5, rcP, Fd.rc, Rc.ent] at hw5'
                      rw [hw5] at GE
                      rw [hw5']
                      refine bodyPost_ret (v := .tuple #[entV (rcP p).ent, .bool false]) (by simp [results, Try.results18, go_sem, r0, r1, r2, r3, r4]; exact ⟨rfl, rfl, rfl, rfl, rfl⟩) rfl ?_
                      exact GE.out
                · have hbk : (p.2.key.toList == key.toList) = false := by
                    simp only [beq_eq_false_iff_ne, ne_eq]
                    exact fun e => hkk (toList_inj e)
                  have FK := Lib.hid (show findL (((rows bs).take k').map rcP).reverse key = after (recs bs) key from by
                    have := FS.out
                    rw [if_neg (by simp [hk1]), if_neg (by simp [hkk])] at this
                    exact this)
                  clear hk1 hk2 hk3 hkk
                  go_wp2_with fail
                  go_roundg k'
                  case measure => have := GK.out; omega
                  case rel => exact ⟨k', by omega, by go_num, rfl, B3.out, FK⟩
              · have hb1 : (p.2.kind == 1) = false := by simp [hk1]
                have FK := Lib.hid (show findL (((rows bs).take k').map rcP).reverse key = after (recs bs) key from by
                  have := FS.out
                  rw [if_neg (by simp [hk2, hk3]), if_neg (by simp [hk1])] at this
                  exact this)
                clear hk1 hk2 hk3
                go_wp2_with fail
                go_roundg k'
                case measure => have := GK.out; omega
                case rel => exact ⟨k', by omega, by go_num, rfl, B3.out, FK⟩
end Go.Proofs.Ytbfkhghegkiifaa
