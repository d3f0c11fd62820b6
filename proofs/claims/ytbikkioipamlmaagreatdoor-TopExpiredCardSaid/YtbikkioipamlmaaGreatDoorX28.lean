/-
  Laws and contracts for the statement TopExpired.
-/
import Derived.Test.YtbikkioipamlmaaGreatDoorX27
open Go.Lib (hid)
open Go.Proofs.Tryz (prog)
set_option linter.unusedVariables false
set_option linter.unusedSimpArgs false
set_option maxRecDepth 100000
set_option maxHeartbeats 20000000
namespace Go.Proofs.YtbikkioipamlmaaGreatDoor
open Go.Maps Go.RowKit L21 T16
theorem hd_field3 (a b c d e f : Int) (W : World) : (Instr.field 66 (.agg #[.int .i64 a, .int .i64 b, .int .i64 c, .int .i64 d, .int .i64 e, .int .i64 f]) 3).run prog W = .ok (.int .i64 d) W := by kernel_rfl
structure CStep (w w' : World) (col col' : Nat -> Nat) : Prop where
  fr : Fr (fun j => col j ≠ 0) w w'
  old : ∀ j, j < w.heap.size -> col' j = col j
theorem CStep.trans {a b c : World} {x y z : Nat -> Nat} (h : CStep a b x y) (k : CStep b c y z) : CStep a c x z :=
  ⟨h.fr.trans k.fr (fun j hj => by
    rcases Nat.lt_or_ge j a.heap.size with q | q
    · exact .inl (by rw [<- h.old j q]; exact hj)
    · exact .inr q), fun j hj => (k.old j (Nat.lt_of_lt_of_le hj h.fr.size)).trans (h.old j hj)⟩
theorem CStep.below {w w' : World} {col : Nat -> Nat} (h : Below w.heap.size w w') : CStep w w' col col := ⟨Fr.of_below h, fun _ _ => rfl⟩
theorem CStep.pre {a b c : World} {x y : Nat -> Nat} (h : Below a.heap.size a b) (k : CStep b c x y) : CStep a c x y := (CStep.below h).trans k
theorem CStep.post {a b c : World} {x y : Nat -> Nat} (h : CStep a b x y) (k : Below b.heap.size b c) : CStep a c x y := h.trans (CStep.below k)
theorem CStep.block {w w' : World} {col col' : Nat -> Nat} (h : CStep w w' col col') {b : Nat} (hb : b < w.heap.size) (hc : col b = 0) : w'.heap[b]? = w.heap[b]? := h.fr.block b hb (fun e => e hc)
theorem CStep.cell {w w' : World} {col col' : Nat -> Nat} (h : CStep w w' col col') {b : Nat} (hb : b < w.heap.size) (hc : col b = 0) (i : Nat) : w'.cell? ⟨b, i, none⟩ = w.cell? ⟨b, i, none⟩ := World.cell?_of_block (a := ⟨b, i, none⟩) (h.block hb hc)
def paint (w w' : World) (c : Nat) (col : Nat -> Nat) : Nat -> Nat := fun j => if w.heap.size <= j /\ j < w'.heap.size then c else col j
theorem paint_old {w w' : World} {c : Nat} {col : Nat -> Nat} {j : Nat} (h : j < w.heap.size) : paint w w' c col j = col j := if_neg (by omega)
theorem paint_new {w w' : World} {c : Nat} {col : Nat -> Nat} {j : Nat} (h : w.heap.size <= j) (h' : j < w'.heap.size) : paint w w' c col j = c := if_pos ⟨h, h'⟩
theorem paint_out {w w' : World} {c : Nat} {col : Nat -> Nat} (hs : w.heap.size <= w'.heap.size) (h : ∀ j, w.heap.size <= j -> col j = 0) : ∀ j, w'.heap.size <= j -> paint w w' c col j = 0 := fun j hj => (if_neg (by omega)).trans (h j (by omega))
theorem CStep.paint {w w' : World} {col : Nat -> Nat} {c : Nat} {S : Nat -> Prop} (h : Fr S w w') (hS : ∀ j, S j -> col j ≠ 0) : CStep w w' col (paint w w' c col) := ⟨h.mono (fun j _ hj => hS j hj), fun j hj => paint_old hj⟩
theorem paint_foot {w w' : World} {c : Nat} {col : Nat -> Nat} {R R' : Nat -> Prop} (hR : ∀ j, R j -> col j = c) (hl : ∀ j, R j -> j < w.heap.size) (hn : ∀ j, R' j -> R j \/ w.heap.size <= j) (hl' : ∀ j, R' j -> j < w'.heap.size) : ∀ j, R' j -> Go.Proofs.YtbikkioipamlmaaGreatDoor.paint w w' c col j = c := fun j hj => by
  rcases hn j hj with k | k
  · rw [paint_old (hl j k)]; exact hR j k
  · exact paint_new k (hl' j hj)
theorem paint_keep {w w' : World} {c d : Nat} {col : Nat -> Nat} {R : Nat -> Prop} (hR : ∀ j, R j -> col j = d) (hl : ∀ j, R j -> j < w.heap.size) : ∀ j, R j -> Go.Proofs.YtbikkioipamlmaaGreatDoor.paint w w' c col j = d := fun j hj => by rw [paint_old (hl j hj)]; exact hR j hj
theorem CrcT.fr {T : Nat -> Int} {w w' : World} {S : Nat -> Prop} (h : CrcT T w) (hf : Fr S w w') (h0 : ¬ S 0) : CrcT T w' := ⟨fun i hi => by rw [World.cell?_of_block (a := ⟨0, i, none⟩) (hf.block 0 h.lt h0)]; exact h.cell i hi⟩
structure Ss0 (w : World) (T : Nat -> Int) (sb tb cb qb dp ib mb cap n : Nat) (D : DataW Nat) (S : List (List Int)) (wn : Nat) (l : Lay) (now : Int) (N : Nat) (P Q R : Nat -> Prop) (lv : Value) (col : Nat -> Nat) : Prop where
  sto : StB w sb tb cb qb dp 0 l lv none 1 now
  ix : Ix w tb cb qb none N P Q R
  dv : Dev w dp ib mb cap n D S wn
  lr : w.ownsRow 0 68 10 lv 0 []
  ct : CrcT T w
  k0 : ∀ j, w.heap.size <= j -> col j = 0
  kz : col 0 = 0
  k1 : ∀ j, ixF P Q R j -> col j = 1
  k2 : ∀ j, devF dp ib mb j -> col j = 2
  k4 : ∀ g, lv.ownBlock = some g -> col g = 4
  k5 : col sb = 5
structure Ss1 (w : World) (T : Nat -> Int) (sb tb cb qb dp ib mb cap n : Nat) (D : DataW Nat) (S : List (List Int)) (wn : Nat) (l : Lay) (now : Int) (m : Option (ByteArray × Ent)) (N : Nat) (P Q R : Nat -> Prop) (lv : Value) (rb pb : Nat) (st : List Int) (tk : Nat) (sv : Value) (col : Nat -> Nat) : Prop where
  sto : StB w sb tb cb qb dp 0 l lv (some rb) 2 now
  ix : Ix w tb cb qb m N P Q R
  dv : Dev w dp ib mb cap n D S wn
  lr : w.ownsRow 0 68 10 lv 1 (regC [rg1 l])
  rg : Rgn w rb dp pb (hd1 l) l st tk sv
  ct : CrcT T w
  k0 : ∀ j, w.heap.size <= j -> col j = 0
  kz : col 0 = 0
  k1 : ∀ j, ixF P Q R j -> col j = 1
  k2 : ∀ j, devF dp ib mb j -> col j = 2
  k3 : ∀ j, regF rb pb sv j -> col j = 3
  k4 : ∀ g, lv.ownBlock = some g -> col g = 4
  k5 : col sb = 5
section
variable {w w' : World} {T : Nat -> Int} {sb tb cb qb dp ib mb cap n wn N rb pb tk : Nat} {D : DataW Nat} {S : List (List Int)} {l : Lay} {now : Int} {m : Option (ByteArray × Ent)} {P Q R : Nat -> Prop} {lv sv : Value} {st : List Int} {col : Nat -> Nat}
theorem Ss0.fr (h : Ss0 w T sb tb cb qb dp ib mb cap n D S wn l now N P Q R lv col) {F : Nat -> Prop} (hf : Fr F w w') (hF : ∀ j, F j -> col j = 0 /\ j ≠ 0) (hk : ∀ j, w'.heap.size <= j -> col j = 0) : Ss0 w' T sb tb cb qb dp ib mb cap n D S wn l now N P Q R lv col :=
  have hh : ∀ j c, col j = c -> c ≠ 0 -> ¬ F j := fun j c e hc hj => hc (e.symm.trans (hF j hj).1)
  ⟨h.sto.fr hf (hh _ _ h.k5 (by omega)), h.ix.fr hf (fun j hj => hh _ _ (h.k1 j hj) (by omega)), h.dv.fr hf (fun j hj => hh _ _ (h.k2 j hj) (by omega)), own_fr h.lr hf (fun g hg => hh _ _ (h.k4 g hg) (by omega)), h.ct.fr hf (fun e => (hF 0 e).2 rfl), hk, h.kz, h.k1, h.k2, h.k4, h.k5⟩
theorem Ss0.below (h : Ss0 w T sb tb cb qb dp ib mb cap n D S wn l now N P Q R lv col) (hb : Below w.heap.size w w') : Ss0 w' T sb tb cb qb dp ib mb cap n D S wn l now N P Q R lv col :=
  h.fr (F := fun _ => False) (.of_below hb) (fun _ f => f.elim) (fun j hj => h.k0 j (Nat.le_trans hb.size hj))
theorem Ss1.fr (h : Ss1 w T sb tb cb qb dp ib mb cap n D S wn l now m N P Q R lv rb pb st tk sv col) {F : Nat -> Prop} (hf : Fr F w w') (hF : ∀ j, F j -> col j = 0 /\ j ≠ 0) (hk : ∀ j, w'.heap.size <= j -> col j = 0) : Ss1 w' T sb tb cb qb dp ib mb cap n D S wn l now m N P Q R lv rb pb st tk sv col :=
  have hh : ∀ j c, col j = c -> c ≠ 0 -> ¬ F j := fun j c e hc hj => hc (e.symm.trans (hF j hj).1)
  ⟨h.sto.fr hf (hh _ _ h.k5 (by omega)), h.ix.fr hf (fun j hj => hh _ _ (h.k1 j hj) (by omega)), h.dv.fr hf (fun j hj => hh _ _ (h.k2 j hj) (by omega)), own_fr h.lr hf (fun g hg => hh _ _ (h.k4 g hg) (by omega)), h.rg.fr hf (fun j hj => hh _ _ (h.k3 j hj) (by omega)), h.ct.fr hf (fun e => (hF 0 e).2 rfl), hk, h.kz, h.k1, h.k2, h.k3, h.k4, h.k5⟩
theorem Ss1.below (h : Ss1 w T sb tb cb qb dp ib mb cap n D S wn l now m N P Q R lv rb pb st tk sv col) (hb : Below w.heap.size w w') : Ss1 w' T sb tb cb qb dp ib mb cap n D S wn l now m N P Q R lv rb pb st tk sv col :=
  h.fr (F := fun _ => False) (.of_below hb) (fun _ f => f.elim) (fun j hj => h.k0 j (Nat.le_trans hb.size hj))
end
theorem qok_mono {w : World} {b N N' : Nat} {F : Nat -> Prop} {L : List Q18.Item} (h : Q18.QOk w b N F L) (hN : N <= N') : Q18.QOk w b N' F L := by
  obtain ⟨v, l, mb, m, D, q, e⟩ := h
  exact ⟨v, l, mb, m, D, ⟨q.hp, q.om, Nat.le_trans q.mN hN, Nat.le_trans q.lN hN, q.ag, q.ri, q.ho, q.sub, q.fit⟩, e⟩
section
variable {w w' : World} {T : Nat -> Int} {sb tb cb qb dp ib mb cap n wn N rb pb tk : Nat} {D : DataW Nat} {S : List (List Int)} {l : Lay} {now : Int} {m : Option (ByteArray × Ent)} {P Q R : Nat -> Prop} {lv sv : Value} {st : List Int} {col : Nat -> Nat}
theorem Ss1.lr4 (h : Ss1 w T sb tb cb qb dp ib mb cap n D S wn l now m N P Q R lv rb pb st tk sv col) : ∀ b, lv.ownBlock = some b -> b < w.heap.size /\ col b = 4 := fun b hb => ⟨(h.lr.lt b hb).2, h.k4 b hb⟩
theorem Ss1.stepR (h : Ss1 w T sb tb cb qb dp ib mb cap n D S wn l now m N P Q R lv rb pb st tk sv col) {st' : List Int} {tk' : Nat} {sv' : Value} (hf : Fr (pkF pb sv) w w') (hr : Rgn w' rb dp pb (hd1 l) l st' tk' sv') (hn : ∀ b, sv'.ownBlock = some b -> sv.ownBlock = some b \/ w.heap.size <= b) :
    Ss1 w' T sb tb cb qb dp ib mb cap n D S wn l now m N P Q R lv rb pb st' tk' sv' (paint w w' 3 col) /\ CStep w w' col (paint w w' 3 col) := by
  have c3 : ∀ j, pkF pb sv j -> col j = 3 := fun j hj => h.k3 j (.inr hj)
  have ne : ∀ j c, col j = c -> c ≠ 3 -> ¬ pkF pb sv j := fun j c e hc hj => hc (e.symm.trans (c3 j hj))
  refine ⟨⟨h.sto.fr hf (ne _ _ h.k5 (by omega)), h.ix.fr hf (fun j hj => ne _ _ (h.k1 j hj) (by omega)), h.dv.fr hf (fun j hj => ne _ _ (h.k2 j hj) (by omega)), own_fr h.lr hf (fun b hb => ne _ _ (h.k4 b hb) (by omega)), hr, h.ct.fr hf (ne _ _ h.kz (by omega)), paint_out hf.size h.k0, (paint_old h.ct.lt).trans h.kz, paint_keep h.k1 h.ix.lt, paint_keep h.k2 h.dv.lt, ?_, ?_, (paint_old (lB h.sto)).trans h.k5⟩, CStep.paint hf (fun j hj => by rw [c3 j hj]; omega)⟩
  · refine paint_foot h.k3 h.rg.lt (fun j hj => ?_) hr.lt
    rcases hj with e | e | e
    · exact .inl (.inl e)
    · exact .inl (.inr (.inl e))
    · exact (hn j e).imp (fun q => .inr (.inr q)) id
  · exact fun b hb => (paint_old (h.lr4 b hb).1).trans (h.k4 b hb)
theorem Ss1.stepI (h : Ss1 w T sb tb cb qb dp ib mb cap n D S wn l now m N P Q R lv rb pb st tk sv col) {m' : Option (ByteArray × Ent)} {N' : Nat} {P' Q' R' : Nat -> Prop} (hf : Fr (ixF P Q R) w w') (hi : Ix w' tb cb qb m' N' P' Q' R') (hn : ∀ j, ixF P' Q' R' j -> ixF P Q R j \/ w.heap.size <= j) :
    Ss1 w' T sb tb cb qb dp ib mb cap n D S wn l now m' N' P' Q' R' lv rb pb st tk sv (paint w w' 1 col) /\ CStep w w' col (paint w w' 1 col) := by
  have ne : ∀ j c, col j = c -> c ≠ 1 -> ¬ ixF P Q R j := fun j c e hc hj => hc (e.symm.trans (h.k1 j hj))
  exact ⟨⟨h.sto.fr hf (ne _ _ h.k5 (by omega)), hi, h.dv.fr hf (fun j hj => ne _ _ (h.k2 j hj) (by omega)), own_fr h.lr hf (fun b hb => ne _ _ (h.k4 b hb) (by omega)), h.rg.fr hf (fun j hj => ne _ _ (h.k3 j hj) (by omega)), h.ct.fr hf (ne _ _ h.kz (by omega)), paint_out hf.size h.k0, (paint_old h.ct.lt).trans h.kz, paint_foot h.k1 h.ix.lt hn hi.lt, paint_keep h.k2 h.dv.lt, paint_keep h.k3 h.rg.lt, fun b hb => (paint_old (h.lr4 b hb).1).trans (h.k4 b hb), (paint_old (lB h.sto)).trans h.k5⟩, CStep.paint hf (fun j hj => by rw [h.k1 j hj]; omega)⟩
theorem Ss1.stepT (h : Ss1 w T sb tb cb qb dp ib mb cap n D S wn l now m N P Q R lv rb pb st tk sv col) {m' : Option (ByteArray × Ent)} {N' : Nat} (hs : TabStp w w' tb m' N' P) (hcq : chL m' = chL m /\ quL m' = quL m) (hN : N <= N') :
    ∃ P', Ss1 w' T sb tb cb qb dp ib mb cap n D S wn l now m' N' P' Q R lv rb pb st tk sv (paint w w' 1 col) /\ CStep w w' col (paint w w' 1 col) /\ (∀ j, P' j -> P j \/ w.heap.size <= j) := by
  obtain ⟨P', t', f', n'⟩ := hs
  have ll := h.ix.lt
  have fx : Fr (ixF P Q R) w w' := f'.mono (fun j _ hj => .inl hj)
  have hx : Ix w' tb cb qb m' N' P' Q R := ⟨t', by rw [hcq.1]; exact (h.ix.c.frame f' (fun j hj hp => h.ix.pq j hp hj)).mono hN, by rw [hcq.2]; exact qok_mono (h.ix.q.frame f' (fun j hj hp => h.ix.pr j hp hj)) hN,
    fun j hp hq => (n' j hp).elim (fun e => h.ix.pq j e hq) (fun e => by have := ll j (.inr (.inl hq)); omega), fun j hp hr => (n' j hp).elim (fun e => h.ix.pr j e hr) (fun e => by have := ll j (.inr (.inr hr)); omega), h.ix.qr⟩
  obtain ⟨a, b⟩ := h.stepI fx hx (fun j hj => by
    rcases hj with e | e | e
    · exact (n' j e).imp .inl id
    · exact .inl (.inr (.inl e))
    · exact .inl (.inr (.inr e)))
  exact ⟨P', a, b, n'⟩
end
end Go.Proofs.YtbikkioipamlmaaGreatDoor
namespace Go.Proofs.YtbikkioipamlmaaGreatDoor.L21
open Go.RowKit
theorem ordlit (x y : Reg) (w : World) : Calls Tryz.prog 186 #[.agg #[.int .i64 x.ver, .int .i64 x.slot, .int .i64 x.lay, .int .i64 x.seq, .int .i64 x.tail, .int .i64 x.now, .int .i64 x.l.id, .int .i64 x.l.ver, .int .i64 x.l.rs, .int .i64 x.l.rg],
      .agg #[.int .i64 y.ver, .int .i64 y.slot, .int .i64 y.lay, .int .i64 y.seq, .int .i64 y.tail, .int .i64 y.now, .int .i64 y.l.id, .int .i64 y.l.ver, .int .i64 y.l.rs, .int .i64 y.l.rg]] w
    fun e w' => e = .returned (.int .i64 (cmpI x.seq y.seq)) /\ Below w.heap.size w w' := by
  go_enter Tryz.func186, Tryz.ntmps186
  go_wp2_with fail
  with_reducible refine (cmpint _ _ _).mono ?_
  rintro e w1 ⟨rfl, rfl⟩
  go_wp2_with fail
  go_ret
  exact ⟨rfl, (((Below.refl _ _).alloc (Nat.le_refl _) _).alloc (by simp) _)⟩
def ordV : Value := .func (.func 186) #[] #[]
structure SortW (w wr : World) (g n cap : Nat) (l : List Reg) : Prop where
  own : wr.ownsRow 0 68 10 (.slice (some ⟨g, 0, none⟩) n cap) n (regC l)
  fr : Fr (fun j => j = g) w wr
theorem SortW.below {w wr w' : World} {g n cap : Nat} {l : List Reg} (h : SortW w wr g n cap l) (hb : Below wr.heap.size wr w') : SortW w w' g n cap l := by
  have hf : Fr (fun _ => False) wr w' := .of_below hb
  exact ⟨own_fr h.own hf (fun _ _ f => f), h.fr.trans hf (fun _ f => f.elim)⟩
theorem SortW.swap {w wr : World} {g n cap j : Nat} {S : List Reg} {r x : Reg} {rest : List Reg} (h : SortW w wr g n cap (midR S r (j + 1) rest)) (hx : S[j]? = some x) : SortW w (set10 (set10 wr g (j + 1) x) g j r).drew g n cap (midR S r j rest) := by
  obtain ⟨o1, f1⟩ := own_set10 h.own (j + 1) x
  obtain ⟨o2, f2⟩ := own_set10 o1 j r
  rw [(midR_at hx).2.2] at o2
  have h2 : SortW w (set10 (set10 wr g (j + 1) x) g j r) g n cap (midR S r j rest) := ⟨o2, (h.fr.trans f1 (fun _ e => .inl e)).trans f2 (fun _ e => .inl e)⟩
  exact h2.below (Below.refl _ _).drew
theorem cmp_neg (a b : Int) : (cmpI a b < 0) ↔ a < b := by
  unfold cmpI
  split
  · simp; omega
  · split <;> omega
theorem sort_start (l : List Reg) : sortR (l.take 1) ++ l.drop 1 = l := by
  cases l with
  | nil => rfl
  | cons x l => rfl
theorem mid_start {l : List Reg} {i : Nat} {r : Reg} (hr : l[i]? = some r) : sortR (l.take i) ++ l.drop i = midR (sortR (l.take i)) r i (l.drop (i + 1)) := by
  obtain ⟨hi, er⟩ := List.getElem?_eq_some_iff.1 hr
  have hl : (sortR (l.take i)).length = i := by rw [(sort_all _).2.2, List.length_take]; omega
  generalize sortR (l.take i) = S at *
  unfold midR
  have hd : S.drop i = [] := List.drop_of_length_le (by omega)
  rw [List.take_of_length_le (by omega), hd]
  have : l.drop i = r :: l.drop (i + 1) := by rw [<- er, List.getElem_cons_drop]
  rw [this]; simp
theorem mid_end {l : List Reg} {i j : Nat} {r : Reg} (hr : l[i]? = some r) (hj : j <= i) (h1 : ∀ x ∈ (sortR (l.take i)).drop j, r.seq < x.seq) (h2 : ∀ x ∈ (sortR (l.take i)).take j, x.seq <= r.seq) :
    midR (sortR (l.take i)) r j (l.drop (i + 1)) = sortR (l.take (i + 1)) ++ l.drop (i + 1) := by
  obtain ⟨hi, er⟩ := List.getElem?_eq_some_iff.1 hr
  have hl : (sortR (l.take i)).length = i := by rw [(sort_all _).2.2, List.length_take]; omega
  unfold midR
  rw [ins_at (sort_all _).1 j (by omega) h1 h2, <- sort_step]
  congr 2
  rw [List.take_add_one, hr]; rfl
theorem inssort (g n cap : Nat) (l : List Reg) (w : World) (hl : l.length = n) (hn : n <= 1000) (hown : w.ownsRow 0 68 10 (.slice (some ⟨g, 0, none⟩) n cap) n (regC l)) :
    Calls prog 315 #[.slice (some ⟨g, 0, none⟩) n cap, .int .i64 0, .int .i64 (n : Int), ordV] w fun e w' => e = .returned (.tuple #[]) /\ SortW w w' g n cap (sortR l) := by
  have W0 := hid (show SortW w w g n cap l from ⟨hown, .refl _ _⟩)
  have HL := hid hl
  clear hown hl
  unfold ordV
  go_enter Tryz.func315, Tryz.ntmps315
  go_wp2_with fail
  go_loopg [8, 9] (n - 1) (fun gk iv _ wr => ∃ i : Nat, iv = .int .i64 (i : Int) /\ 1 <= i /\ (i <= n \/ n = 0 /\ i = 1) /\ gk = n - i /\ SortW w wr g n cap (sortR (l.take i) ++ l.drop i))
  case atStart => exact ⟨1, rfl, Nat.le_refl _, by omega, rfl, by rw [sort_start]; exact W0.out⟩
  case round =>
    obtain ⟨i, rfl, hi1, hin, hgk, hs⟩ := hrel
    have GK := hid hgk
    have HS := hid hs
    clear hs hgk W0
    by_cases hlt : i < n
    · obtain ⟨r, hr⟩ : ∃ r, l[i]? = some r := ⟨_, List.getElem?_eq_getElem (by rw [HL.out]; exact hlt)⟩
      have M0 := HS.out
      rw [mid_start hr] at M0
      have hSl : (sortR (l.take i)).length = i := by rw [(sort_all _).2.2, List.length_take, HL.out]; omega
      have ME := hid (fun j => mid_end (j := j) hr)
      have hsrt := hid (sort_all (l.take i)).1
      obtain ⟨S, hSe⟩ : ∃ S, sortR (l.take i) = S := ⟨_, rfl⟩
      rw [hSe] at M0 hSl ME hsrt
      obtain ⟨rest, hre⟩ : ∃ rest, l.drop (i + 1) = rest := ⟨_, rfl⟩
      have MH := hid M0
      rw [hre] at MH
      have HR := hid hre
      clear hr hSe M0 HS hre
      have hltI : (i : Int) < n := by omega
      go_wp2_with fail
      go_loopg [9] i (fun gk jv wr' => ∃ j : Nat, jv = .int .i64 (j : Int) /\ j = gk /\ j <= i /\ Hid (∀ x ∈ S.drop j, r.seq < x.seq) /\ SortW w wr' g n cap (midR S r j rest))
      case atStart => exact ⟨i, rfl, rfl, Nat.le_refl _, hid (fun x hx => by rw [List.drop_of_length_le (by omega)] at hx; cases hx), MH.out⟩
      case round =>
        obtain ⟨j, rfl, hjg, hji, hbig, hs⟩ := hrel
        have HS := hid hs
        have GJ := hid hjg
        clear hs hjg MH
        by_cases hj0 : j = 0
        · subst hj0
          have FIN := hid (show SortW w wr g n cap (sortR (l.take (i + 1)) ++ l.drop (i + 1)) from by rw [<- ME.out 0 (Nat.zero_le _) hbig.out (fun x hx => by simp at hx), HR.out]; exact HS.out)
          go_wp2_with fail
          go_quiet (fail)
          go_wp2_with fail
          have FIN2 := hid (FIN.out.below (below_drewN (Below.refl _ _) nq))
          go_roundg (n - (i + 1))
          case measure => have := GK.out; omega
          case rel => exact ⟨i + 1, by go_num, by omega, by omega, rfl, FIN2.out⟩
        · obtain ⟨j', rfl⟩ : ∃ j', j = j' + 1 := ⟨j - 1, by omega⟩
          obtain ⟨x, hx⟩ : ∃ x, S[j']? = some x := ⟨_, List.getElem?_eq_getElem (by omega)⟩
          obtain ⟨m1, m2, m3⟩ := midR_at (r := r) (rest := rest) hx
          obtain ⟨⟨a0, a1, a2, a3, a4, a5, a6, a7, a8, a9⟩, hfz⟩ := own_reg HS.out.own (j' + 1) r m1
          obtain ⟨⟨b0, b1, b2, b3, b4, b5, b6, b7, b8, b9⟩, _⟩ := own_reg HS.out.own j' x m2
          have hgw := (HS.out.own.lt g rfl).2
          have OL := hid (fun W => ordlit r x W)
          have hjI : ((j' : Int) + 1) < n := by omega
          have hjI2 : (j' : Int) < n := by omega
          have HX := hid hx
          clear hj0 m1 m2 m3 hx
          go_wp2_with fail
          refine wp_region_ext wr.heap.size (by kernel_rfl) (by kernel_rfl) ?_
          have hx := fun (x : Ext wr.heap.size wr) b o h => Ext.cell x b o h
          repeat (go_big_quiet_step (first | (go_at_call 186; with_reducible exact Calls.ext (Nat.le_refl _) (OL.out _)) | (with_reducible exact rfl)))
          refine wpQuiet_nil ?_
          rintro w4 ⟨⟨w5, hb⟩, (he : w4 = w5)⟩
          subst he
          have H3 := hid (HS.out.below hb)
          clear hx a0 a1 a2 a3 a4 a5 a6 a7 a8 a9 b0 b1 b2 b3 b4 b5 b6 b7 b8 b9 hfz hb hgw OL
          by_cases hc : r.seq < x.seq
          · have hdec : decide (cmpI r.seq x.seq < 0) = true := by rw [decide_eq_true_iff, cmp_neg]; exact hc
            have BIG := hid (show ∀ y ∈ S.drop j', r.seq < y.seq from fun y hy => by
              have e : S.drop j' = x :: S.drop (j' + 1) := by
                obtain ⟨h0, ex⟩ := List.getElem?_eq_some_iff.1 HX.out
                rw [<- ex, List.getElem_cons_drop]
              rw [e] at hy
              rcases List.mem_cons.1 hy with rfl | hy
              · exact hc
              · exact hbig.out y hy)
            have SW := hid (fun W (h : set10 (set10 w4 g (j' + 1) x) g j' r = W) => show SortW w W.drew g n cap (midR S r j' rest) from h ▸ H3.out.swap HX.out)
            obtain ⟨m1, m2, m3⟩ := midR_at (r := r) (rest := rest) HX.out
            obtain ⟨⟨a0, a1, a2, a3, a4, a5, a6, a7, a8, a9⟩, hfz⟩ := own_reg H3.out.own (j' + 1) r m1
            obtain ⟨⟨b0, b1, b2, b3, b4, b5, b6, b7, b8, b9⟩, _⟩ := own_reg H3.out.own j' x m2
            clear m1 m2 m3 hc
            rw [hdec]
            go_wp2_with fail
            go_region
            obtain ⟨W, hW⟩ : ∃ W, set10 (set10 w4 g (j' + 1) x) g j' r = W := ⟨_, rfl⟩
            have SWW := hid (SW.out W hW)
            unfold set10 at hW
            rw [hW]
            clear hW SW a0 a1 a2 a3 a4 a5 a6 a7 a8 a9 b0 b1 b2 b3 b4 b5 b6 b7 b8 b9 hfz
            generalize W.drew = W1 at *
            go_wp2_with fail
            go_roundg j'
            case measure => have := GJ.out; omega
            case rel => exact ⟨j', by go_num, rfl, by omega, BIG, SWW.out⟩
          · have hdec : decide (cmpI r.seq x.seq < 0) = false := by rw [decide_eq_false_iff_not, cmp_neg]; exact hc
            have FIN := hid (show SortW w w4 g n cap (sortR (l.take (i + 1)) ++ l.drop (i + 1)) from by rw [<- ME.out (j' + 1) hji hbig.out (ins_stop hsrt.out j' x HX.out (by omega)), HR.out]; exact H3.out)
            clear hc
            rw [hdec]
            go_wp2_with fail
            go_roundg (n - (i + 1))
            case measure => have := GK.out; omega
            case rel => exact ⟨i + 1, by go_num, by omega, by omega, rfl, FIN.out⟩
    · have FIN := hid (show SortW w wr g n cap (sortR l) from by
        have h := HS.out
        rw [List.take_of_length_le (by rw [HL.out]; omega), List.drop_of_length_le (by rw [HL.out]; omega), List.append_nil] at h
        exact h)
      go_wp2_with fail
      go_end0
      exact ⟨rfl, FIN.out⟩
theorem own_rebase {w w' : World} {B : Nat} {e : TypeId} {size : Nat} {v : Value} {n : Nat} {xs ys : List Value} (h0 : w.ownsRow B e size v n ys) (h : w'.ownsRow 0 e size v n xs) : w'.ownsRow B e size v n xs := by
  refine ⟨h.1, ?_⟩
  rcases h.2 with h2 | ⟨g, cap, cur, hv, hg, r⟩
  · exact .inl h2
  · exact .inr ⟨g, cap, cur, hv, (h0.lt g (by rw [hv]; rfl)).1, r⟩
theorem regC_one (l : List Reg) : ∀ u ∈ regC l, u.oneCell' = true := by
  induction l with
  | nil => intro u hu; cases hu
  | cons r l ih =>
    intro u hu
    rcases List.mem_append.1 hu with h | h
    · simp [Reg.cells] at h
      rcases h with rfl | rfl | rfl | rfl | rfl | rfl | rfl | rfl | rfl | rfl <;> rfl
    · exact ih u h
theorem reginfo : (prog.info? 68).map (fun i => (i.zero, i.size, i.bytes)) = some (some (.agg #[.int .i64 0, .int .i64 0, .int .i64 0, .int .i64 0, .int .i64 0, .int .i64 0, .int .i64 0, .int .i64 0, .int .i64 0, .int .i64 0]), 10, 80) := by kernel_rfl
theorem own_empty (w : World) : (w.alloc (.cells #[] 68)).ownsRow w.heap.size 68 10 (.slice (some ⟨w.heap.size, 0, none⟩) 0 0) 0 [] :=
  ⟨rfl, .inr ⟨w.heap.size, 0, #[], rfl, Nat.le_refl _, by show (w.heap.push _)[w.heap.size]? = _; simp, Nat.le_refl _, by unfold maxLen; omega, rfl, rfl⟩⟩
theorem src_below {w w' : World} {size n cap : Nat} {ad : Addr} {vs : List Value} (h : Src w size (.slice (some ad) n cap) n vs) (hb : Below w.heap.size w w') : Src w' size (.slice (some ad) n cap) n vs := by
  refine ⟨h.1, .inr ?_⟩
  rcases h.2 with ⟨h1, _⟩ | ⟨ad', cap', h1, h2⟩
  · cases h1
  · refine ⟨ad', cap', h1, fun j u hu => ?_⟩
    have hc := h2 j u hu
    rw [hb.cell (World.block_lt_of_cell? w _ hc)]
    exact hc
theorem clone34 (a : Option Addr) (n cap : Nat) (l : List Reg) (w : World) (hl : l.length = n) (hn : n <= 1000) (hv : Vals w a (regC l)) (h0 : a = none -> n = 0 /\ cap = 0) :
    Calls prog 109 #[.slice a n cap] w fun e w' => ∃ v, e = .returned v /\ w'.ownsRow w.heap.size 68 10 v n (regC l) /\ Below w.heap.size w w' := by
  have HS := hid (hv.src (m := n) (cap := cap) (size := 10) (by rw [regC_len, hl]) h0)
  have H1 := hid (regC_one l)
  obtain ⟨i0, hi, hz0, hz1, hz2⟩ := info_parts reginfo
  have I1 := hid hi; have I2 := hid hz0; have I3 := hid hz1; have I4 := hid hz2
  clear hi hz0 hz1 hz2
  have QN : ∀ (w : World) (a : Option Addr) (n c : Nat), (binOp .eql 59 (.slice a n c) (.slice none 0 0)).run prog w = .ok (.bool a.isNone) w := fun w a n c => Lib.run_eql_slice_nil w _ _ a n c 0 0 Tryz.underlying59
  cases a with
  | none =>
    obtain ⟨rfl, rfl⟩ := h0 rfl
    have he : l = [] := List.eq_nil_of_length_eq_zero hl
    subst he
    clear hv h0 hl
    go_enter Tryz.func109, Tryz.ntmps109
    go_wp2_with fail
    go_ret
    exact ⟨_, rfl, World.ownsRow_nil _ _ _ _, Below.refl _ _⟩
  | some ad =>
    clear hv h0
    go_enter Tryz.func109, Tryz.ntmps109
    go_wp2_with (at_builtin; refine Stop.out ?_)
    refine Stop.of (wpList_app rfl _ _ 59 rfl w.heap.size 68 i0 (.agg #[.int .i64 0, .int .i64 0, .int .i64 0, .int .i64 0, .int .i64 0, .int .i64 0, .int .i64 0, .int .i64 0, .int .i64 0, .int .i64 0]) 10 80 Tryz.underlying59 I1.out I2.out I3.out I4.out rfl (by decide) (.slice (some ⟨w.heap.size, 0, none⟩) 0 0) 0 [] rfl (own_empty w) (.slice (some ad) n cap) n (regC l) rfl (src_below HS.out ((Below.refl _ _).alloc (Nat.le_refl _) _)) H1.out (by unfold maxLen; omega) (by omega) (by simp) ?_)
    intro v1 w1 hown hg
    rw [List.nil_append, Nat.zero_add] at hown
    have O1 := hid hown
    have B1 := hid (((Below.refl w.heap.size w).alloc (Nat.le_refl _) (.cells #[] 68)).grown hg (by simp) (fun j hj => by simp [Value.ownBlock] at hj; omega))
    clear hown hg
    go_wp2_with fail
    go_ret
    exact ⟨v1, rfl, O1.out, B1.out⟩
def SortV (w w' : World) (v : Value) (n : Nat) (l : List Reg) : Prop := w'.ownsRow 0 68 10 v n (regC (sortR l)) /\ Fr (fun j => v.ownBlock = some j) w w'
theorem ins_v (v : Value) (n : Nat) (l : List Reg) (w : World) (hl : l.length = n) (hn : n <= 1000) (hown : w.ownsRow 0 68 10 v n (regC l)) :
    Calls prog 315 #[v, .int .i64 0, .int .i64 (n : Int), ordV] w fun e w' => e = .returned (.tuple #[]) /\ SortV w w' v n l := by
  rcases hown.2 with ⟨rfl, h0⟩ | ⟨g, cap, cur, rfl, _⟩
  · have h00 : n = 0 := by have := hown.1; rw [h0] at this; simp at this; omega
    subst h00
    have he : l = [] := List.eq_nil_of_length_eq_zero hl
    subst he
    have Q := hid (show SortV w w (.slice none 0 0) 0 [] from ⟨hown, .refl _ _⟩)
    clear hown h0
    unfold ordV
    go_enter Tryz.func315, Tryz.ntmps315
    go_wp2_with fail
    go_loopg [8, 9] 0 (fun gk iv _ wr => iv = .int .i64 1 /\ w = wr)
    case atStart => exact ⟨rfl, rfl⟩
    case round =>
      obtain ⟨rfl, rfl⟩ := hrel
      go_wp2_with fail
      go_end0
      exact ⟨rfl, Q.out⟩
  · refine (inssort g n cap l w hl hn hown).mono ?_
    rintro e w' ⟨rfl, h⟩
    exact ⟨rfl, h.own, h.fr.mono (fun j _ e => by rw [e]; rfl)⟩
theorem stable44 (v : Value) (n : Nat) (l : List Reg) (w : World) (hl : l.length = n) (hn : n < 20) (hown : w.ownsRow 0 68 10 v n (regC l)) :
    Calls prog 261 #[v, .int .i64 (n : Int), ordV] w fun e w' => e = .returned (.tuple #[]) /\ SortV w w' v n l := by
  have IS := hid (ins_v v n l w hl (by omega) hown)
  clear hown hl
  unfold ordV at *
  go_enter Tryz.func261, Tryz.ntmps261
  go_wp2_with fail
  go_loopg [7, 8] 0 (fun gk av bv wr => av = .int .i64 0 /\ bv = .int .i64 20 /\ w = wr)
  case atStart => exact ⟨rfl, rfl, rfl⟩
  case round =>
    obtain ⟨rfl, rfl, rfl⟩ := hrel
    go_wp2_with fail
    with_reducible refine IS.out.mono ?_
    rintro e w1 ⟨rfl, h1⟩
    have H1 := hid h1
    clear h1 IS
    go_wp2_with fail
    go_loopg [6, 7, 8, 9] 0 (fun gk bs _ _ _ wr => bs = .int .i64 20 /\ w1 = wr)
    case atStart => exact ⟨rfl, rfl⟩
    case round =>
      obtain ⟨rfl, rfl⟩ := hrel
      go_wp2_with fail
      go_end0
      exact ⟨rfl, H1.out⟩
theorem sortst35 (v : Value) (n : Nat) (l : List Reg) (w : World) (hl : l.length = n) (hn : n < 20) (hown : w.ownsRow 0 68 10 v n (regC l)) :
    Calls prog 185 #[v, ordV] w fun e w' => e = .returned (.tuple #[]) /\ SortV w w' v n l := by
  have IS := hid (stable44 v n l w hl hn hown)
  obtain ⟨a, cap, rfl, _⟩ := ownsRow_vals hown
  clear hown hl
  unfold ordV at *
  go_enter Tryz.func185, Tryz.ntmps185
  go_wp2_with fail
  with_reducible refine IS.out.mono ?_
  rintro e w1 ⟨rfl, h1⟩
  have H1 := hid h1
  clear h1
  go_wp2_with fail
  go_end0
  exact ⟨rfl, H1.out⟩
theorem order18 (a : Option Addr) (n cap : Nat) (l : List Reg) (w : World) (hl : l.length = n) (hn : n < 20) (hv : Vals w a (regC l)) (h0 : a = none -> n = 0 /\ cap = 0) :
    Calls prog 113 #[.slice a n cap] w fun e w' => ∃ v, e = .returned v /\ w'.ownsRow w.heap.size 68 10 v n (regC (sortR l)) /\ Below w.heap.size w w' := by
  have CL := hid (clone34 a n cap l w hl (by omega) hv h0)
  have SS := hid (fun v W (h : World.ownsRow W 0 68 10 v n (regC l)) => sortst35 v n l W hl hn h)
  clear hv h0 hl
  unfold ordV at SS
  go_enter Tryz.func113, Tryz.ntmps113
  go_wp2_with fail
  with_reducible refine CL.out.mono ?_
  rintro e w1 ⟨v, rfl, hown, hb⟩
  have O1 := hid hown
  have B1 := hid hb
  have S1 := hid (SS.out v w1 (Joins.ownsRow_le hown (Nat.zero_le _)))
  clear hown hb
  go_wp2_with fail
  with_reducible refine S1.out.mono ?_
  rintro e w2 ⟨rfl, h2, f2⟩
  have O2 := hid (own_rebase O1.out h2)
  have B2 := hid (Fr.below B1.out f2 B1.out.size (fun k hk => (O1.out.lt k hk).1))
  clear h2 f2
  go_wp2_with fail
  go_ret
  exact ⟨v, rfl, O2.out, B2.out⟩
def tailD (l : List Reg) (next : Int) : Int := match sortR l with
  | [] => next
  | r :: _ => r.seq
theorem tail16 (a : Option Addr) (n cap : Nat) (l : List Reg) (next : Int) (w : World) (hl : l.length = n) (hn : n < 20) (hv : Vals w a (regC l)) (h0 : a = none -> n = 0 /\ cap = 0) :
    Calls prog 282 #[.slice a n cap, .int .i64 next] w fun e w' => e = .returned (.int .i64 (tailD l next)) /\ Below w.heap.size w w' := by
  have OR := hid (order18 a n cap l w hl hn hv h0)
  have hsl := (sort_all l).2.2
  obtain ⟨td, htd⟩ : ∃ d, tailD l next = d := ⟨_, rfl⟩
  have htd' := htd
  rw [htd]
  unfold tailD at htd'
  obtain ⟨S, hS⟩ : ∃ S, sortR l = S := ⟨_, rfl⟩
  rw [hS] at htd' hsl
  have SH := hid hS
  clear hv h0 htd hS
  go_enter Tryz.func282, Tryz.ntmps282
  go_wp2_with fail
  with_reducible refine OR.out.mono ?_
  rintro e w1 ⟨v, rfl, hown, hb⟩
  rw [SH.out] at hown
  have B1 := hid hb
  obtain ⟨g, cap', rfl, hvs, hcap, _⟩ := ownsRow_vals hown
  cases S with
  | nil =>
    have hn0 : n = 0 := by rw [<- hl, <- hsl]; rfl
    subst hn0
    simp only at htd'
    subst htd'
    clear hown hvs OR hb
    go_wp2_with fail
    go_ret
    exact ⟨rfl, B1.out⟩
  | cons r S =>
    have hn0 : 0 < n := by rw [<- hl, <- hsl]; simp
    simp only at htd'
    subst htd'
    obtain ⟨b, off, rfl, hb2, hc⟩ := hvs.at 3 (v := .int .i64 r.seq) rfl
    have hb0 : ((n : Int) == 0) = false := by simp; omega
    have hbI : (0 : Int) < n := by omega
    clear hown hvs OR hb
    go_wp2_with fail
    go_ret
    exact ⟨rfl, B1.out⟩
def reg0 : Reg := ⟨0, 0, 0, 0, 0, 0, ⟨0, 0, 0, 0⟩⟩
theorem Vals.regs {w : World} {a : Option Addr} {l : List Reg} (h : Vals w a (regC l)) : RegsAt w a l.length (fun i => l[i]?.getD reg0) := by
  intro i hi
  have hp : l[i]? = some l[i] := List.getElem?_eq_getElem hi
  obtain ⟨b, off, ha, hb, _⟩ := h (i * 10) (by rw [regC_len]; omega)
  refine ⟨b, off, ha, hb, fun j hj => ?_⟩
  obtain ⟨b', off', ha', _, hc⟩ := h (i * 10 + j) (by rw [regC_len]; omega)
  rw [ha] at ha'
  cases ha'
  rw [hc, regC_at l i l[i] hp j hj]
  show _ = (l[i]?.getD reg0).cells[j]?
  rw [hp]
  rfl
def freeQ (t : Lay) (l : List Reg) : List Int := freeD t (fun i => l[i]?.getD reg0) l.length
def chS (t : Lay) (l : List Reg) : Int := match freeQ t l with
  | [] => -1
  | x :: _ => x
def chB (t : Lay) (l : List Reg) : Bool := match freeQ t l with
  | [] => false
  | _ :: _ => true
theorem freeQ_len (t : Lay) (l : List Reg) : (freeQ t l).length <= 16 := by
  unfold freeQ freeD
  split
  · rename_i h
    have := formB_rng h
    have h2 := freeL_len t (fun i => l[i]?.getD reg0) l.length t.rg.toNat
    omega
  · simp
theorem choose8 (t : Lay) (a : Option Addr) (n cap : Nat) (l : List Reg) (w : World) (hl : l.length = n) (hn : n < 1000) (hv : Vals w a (regC l)) :
    Calls prog 212 #[.agg #[.int .i64 t.id, .int .i64 t.ver, .int .i64 t.rs, .int .i64 t.rg], .slice a n cap] w fun e w' => e = .returned (.tuple #[.int .i64 (chS t l), .bool (chB t l)]) /\ Below w.heap.size w w' := by
  have hr := Vals.regs hv
  have FR := hid (free17 t a n cap (fun i => l[i]?.getD reg0) (w.alloc (.cells #[.int .i64 t.id, .int .i64 t.ver, .int .i64 t.rs, .int .i64 t.rg] 26)) (by omega) (by rw [<- hl]; exact hr.below ((Below.refl _ _).alloc (Nat.le_refl _) _) (Nat.le_refl _)))
  have hq := freeQ_len t l
  have FQ := hid (show freeD t (fun i => l[i]?.getD reg0) n = freeQ t l from by rw [<- hl]; rfl)
  unfold chS chB
  obtain ⟨q, hqe⟩ : ∃ q, freeQ t l = q := ⟨_, rfl⟩
  rw [FQ.out, hqe] at FR
  rw [hqe] at hq ⊢
  clear hr hv FQ hqe
  go_enter Tryz.func212, Tryz.ntmps212
  go_wp2_with fail
  with_reducible refine FR.out.mono ?_
  rintro e w1 hret
  obtain ⟨v, rfl, hown, hb⟩ := hret
  have B1 := hid (show Below w.heap.size w w1 from bel1 hb)
  obtain ⟨a1, cap1, rfl, hel, _, _⟩ := ownsRow_elems hown
  cases q with
  | nil =>
    clear hown hb hel
    go_wp2_with fail
    go_ret2
    exact ⟨rfl, B1.out⟩
  | cons x q =>
    obtain ⟨b, off, rfl, hb2, hc⟩ := hel 0 (by simp)
    simp only [Nat.add_zero, List.getElem?_cons_zero, Option.getD_some] at hc
    have hq1 : ((x :: q).length : Int) <= 16 := by omega
    have hq0 : (((x :: q).length : Int) == 0) = false := by simp; omega
    have hq2 : (0 : Int) < ((x :: q).length : Int) := by simp only [List.length_cons]; omega
    generalize (x :: q).length = m at *
    clear hown hb hel
    go_wp2_with fail
    go_ret2
    exact ⟨rfl, B1.out⟩
theorem splitw (x s : Int) (sb : Nat) (w : World) (hs : w.cell? ⟨sb, 0, none⟩ = some (.int .i64 s)) : Calls prog 279 #[.int .i64 x, .pointer (some ⟨sb, 0, none⟩)] w fun e w' => e = .returned (.bool (x != s)) /\ w = w' := by
  go_enter Tryz.func279, Tryz.ntmps279
  go_wp2_with fail
  go_ret
  exact ⟨rfl, rfl⟩
theorem index43 (a : Option Addr) (n cap : Nat) (q : List Int) (s : Int) (sb : Nat) (w : World) (hl : q.length = n) (hn : n <= 1000) (he : Elems .i64 w a n q) (hs : w.cell? ⟨sb, 0, none⟩ = some (.int .i64 s)) :
    Calls prog 329 #[.slice a n cap, .func (.func 279) #[] #[.pointer (some ⟨sb, 0, none⟩)]] w fun e w' => (∃ m : Int, e = .returned (.int .i64 m) /\ decide (0 <= m) = q.any (fun x => x != s)) /\ w = w' := by
  have HE := hid he
  have HL := hid hl
  clear he hl
  go_enter Tryz.func329, Tryz.ntmps329
  go_wp2_with fail
  go_loopg [5, 8] n (fun gk _ iv wr => ∃ i : Nat, iv = .int .i64 i /\ i <= n /\ gk = n - i /\ w = wr /\ Hid ((q.take i).any (fun x => x != s) = false))
  case atStart => exact ⟨0, rfl, Nat.zero_le _, rfl, rfl, hid (by simp)⟩
  case round =>
    obtain ⟨i, rfl, hi, hgk, rfl, hno⟩ := hrel
    have GK := hid hgk
    clear hgk
    by_cases hlt : i < n
    · obtain ⟨b, off, rfl, hb, hc⟩ := HE.out i hlt
      have hqi : q[i]? = some (q[i]?.getD 0) := by rw [List.getElem?_eq_getElem (by rw [HL.out]; exact hlt)]; rfl
      obtain ⟨x, hx⟩ : ∃ x, q[i]?.getD 0 = x := ⟨_, rfl⟩
      rw [hx] at hc hqi
      have HX := hid hqi
      have hiI : (i : Int) < n := by omega
      clear hx hqi
      go_wp2_with fail
      with_reducible refine (splitw x s sb w hs).mono ?_
      rintro e w1 ⟨rfl, rfl⟩
      cases hxs : (x != s) with
      | true =>
        have F := hid (show q.any (fun x => x != s) = true from List.any_eq_true.2 ⟨x, List.mem_of_getElem? HX.out, hxs⟩)
        clear hxs
        go_wp2_with fail
        go_ret
        exact ⟨⟨(i : Int), rfl, by rw [F.out]; simp⟩, rfl⟩
      | false =>
        have F := hid (show (q.take (i + 1)).any (fun x => x != s) = false from by
          rw [List.take_add_one, HX.out, List.any_append, hno.out]; simp [hxs])
        clear hxs
        go_wp2_with fail
        go_roundg (n - (i + 1))
        case measure => have := GK.out; omega
        case rel => exact ⟨i + 1, by go_num, by omega, rfl, rfl, F⟩
    · have F := hid (show q.any (fun x => x != s) = false from by
        have := hno.out
        rw [List.take_of_length_le (by rw [HL.out]; omega)] at this; exact this)
      go_wp2_with fail
      go_ret
      exact ⟨⟨-1, rfl, by rw [F.out]; rfl⟩, rfl⟩
theorem contains26 (a : Option Addr) (n cap : Nat) (q : List Int) (s : Int) (sb : Nat) (w : World) (hl : q.length = n) (hn : n <= 1000) (he : Elems .i64 w a n q) (hs : w.cell? ⟨sb, 0, none⟩ = some (.int .i64 s)) :
    Calls prog 278 #[.slice a n cap, .func (.func 279) #[] #[.pointer (some ⟨sb, 0, none⟩)]] w fun e w' => e = .returned (.bool (q.any (fun x => x != s))) /\ w = w' := by
  have H := hid (index43 a n cap q s sb w hl hn he hs)
  clear he hs hl
  go_enter Tryz.func278, Tryz.ntmps278
  go_wp2_with fail
  with_reducible refine H.out.mono ?_
  rintro e w1 ⟨⟨m, rfl, hm⟩, rfl⟩
  have HM := hid hm
  clear hm
  go_wp2_with fail
  all_goals
    go_ret
    exact ⟨ret_bool HM.out, rfl⟩
def spB (t : Lay) (l : List Reg) (s : Int) : Bool := (freeQ t l).any (fun x => x != s)
theorem spare11 (t : Lay) (a : Option Addr) (n cap : Nat) (l : List Reg) (s : Int) (w : World) (hl : l.length = n) (hn : n < 1000) (hv : Vals w a (regC l)) :
    Calls prog 213 #[.agg #[.int .i64 t.id, .int .i64 t.ver, .int .i64 t.rs, .int .i64 t.rg], .slice a n cap, .int .i64 s] w fun e w' => e = .returned (.bool (spB t l s)) /\ Below w.heap.size w w' := by
  have hr := Vals.regs hv
  have FR := hid (free17 t a n cap (fun i => l[i]?.getD reg0) ((w.alloc (.cells #[.int .i64 t.id, .int .i64 t.ver, .int .i64 t.rs, .int .i64 t.rg] 26)).alloc (.cells #[.int .i64 s] 3)) (by omega) (by rw [<- hl]; exact hr.below (((Below.refl _ _).alloc (Nat.le_refl _) _).alloc (by simp) _) (Nat.le_refl _)))
  have hq := freeQ_len t l
  have FQ := hid (show freeD t (fun i => l[i]?.getD reg0) n = freeQ t l from by rw [<- hl]; rfl)
  unfold spB
  obtain ⟨q, hqe⟩ : ∃ q, freeQ t l = q := ⟨_, rfl⟩
  rw [FQ.out, hqe] at FR
  rw [hqe] at hq ⊢
  clear hr hv FQ hqe
  go_enter Tryz.func213, Tryz.ntmps213
  go_wp2_with fail
  with_reducible refine FR.out.mono ?_
  rintro e w1 hret
  obtain ⟨v, rfl, hown, hb⟩ := hret
  have B1 := hid (show Below w.heap.size w w1 from bel2 hb)
  have hs : w1.cell? ⟨w.heap.size + 1, 0, none⟩ = some (.int .i64 s) := by
    rw [hb.cell (p := ⟨w.heap.size + 1, 0, none⟩) (by simp), World.cell?_alloc_at _ _ _ _ (by simp)]; rfl
  obtain ⟨a1, cap1, rfl, hel, _, _⟩ := ownsRow_elems hown
  have CT := hid (contains26 a1 q.length cap1 q s (w.heap.size + 1) w1 rfl (by omega) hel hs)
  clear hown hb hel hs
  go_wp2_with fail
  with_reducible refine CT.out.mono ?_
  rintro e w2 ⟨rfl, rfl⟩
  go_wp2_with fail
  go_ret
  exact ⟨rfl, B1.out⟩
end Go.Proofs.YtbikkioipamlmaaGreatDoor.L21
namespace Go.Proofs.YtbikkioipamlmaaGreatDoor
open Go.Maps Go.RowKit L21 T16
theorem ridxz (a : Option Addr) (cap : Nat) (fv : Value) (w : World) :
    Calls prog 184 #[.slice a 0 cap, fv] w fun e w' => e = .returned (.int .i64 (-1)) /\ w' = w := by
  go_enter Tryz.func184, Tryz.ntmps184
  go_wp2_with fail
  go_loopw [8] (fun i wr => i = .int .i64 0 /\ wr = w) (fun i _ => 0)
  case atStart => exact ⟨rfl, rfl⟩
  case round =>
    obtain ⟨rfl, rfl⟩ := hrel
    go_wp2_with fail
    go_ret
    exact ⟨rfl, rfl⟩
theorem rdelz (a : Option Addr) (cap : Nat) (fv : Value) (w : World) :
    Calls prog 112 #[.slice a 0 cap, fv] w fun e w' => e = .returned (.slice a 0 cap) /\ w' = w := by
  go_enter Tryz.func112, Tryz.ntmps112
  go_wp2_with fail
  with_reducible refine (ridxz _ _ _ _).mono ?_
  rintro e x1 ⟨rfl, rfl⟩
  go_wp2_with fail
  go_ret
  exact ⟨rfl, rfl⟩
theorem own_z {w : World} {B : Nat} {e : TypeId} {size : Nat} {v : Value} {xs : List Value} (h : w.ownsRow B e size v 0 xs) : ∃ a c, v = .slice a 0 c /\ (a = none -> c = 0) := by
  rcases h.2 with ⟨rfl, _⟩ | ⟨g, cap, cur, rfl, _⟩
  · exact ⟨none, 0, rfl, fun _ => rfl⟩
  · exact ⟨_, _, rfl, fun h => by cases h⟩
theorem foreignz (l : Lay) (a : Option Addr) (cap : Nat) (w : World) (h0 : a = none -> cap = 0) :
    Calls prog 57 #[.agg #[.int .i64 l.id, .int .i64 l.ver, .int .i64 l.rs, .int .i64 l.rg], .slice a 0 cap] w fun e w' => ∃ a' c', e = .returned (.slice a' 0 c') /\ Below w.heap.size w w' := by
  have OR := hid (fun W => order18 a 0 cap [] W rfl (by omega) (fun i hi => by simp [regC] at hi) (fun h => ⟨rfl, h0 h⟩))
  clear h0
  go_enter Tryz.func57, Tryz.ntmps57
  go_wp2_with fail
  with_reducible refine (OR.out _).mono ?_
  rintro e w1 ⟨v, rfl, ho, hb⟩
  obtain ⟨a1, c1, rfl, _⟩ := own_z ho
  have B1 := hid (tB (bel_al1 (w := w) _) hb)
  clear ho hb
  go_wp2_with fail
  with_reducible refine (rdelz _ _ _ _).mono ?_
  rintro e x1 ⟨rfl, rfl⟩
  go_wp2_with fail
  go_ret
  exact ⟨_, _, rfl, B1.out⟩
theorem sortR_nil : sortR [] = [] := List.eq_nil_of_length_eq_zero ((sort_all []).2.2)
theorem tailD_nil (n : Int) : tailD [] n = n := by unfold tailD; rw [sortR_nil]
section
variable {w : World} {T : Nat -> Int} {sb tb cb qb dp ib mb cap n wn N : Nat} {D : DataW Nat} {S : List (List Int)} {l : Lay} {now : Int} {P Q R : Nat -> Prop} {lv : Value} {col : Nat -> Nat}
theorem stail0 (h : Ss0 w T sb tb cb qb dp ib mb cap n D S wn l now N P Q R lv col) :
    Calls prog 216 #[.pointer (some ⟨sb, 0, none⟩)] w fun e w' => e = .returned (.int .i64 1) /\ Below w.heap.size w w' := by
  obtain ⟨a, c, rfl, h0⟩ := own_z h.lr
  have c21 := qB (i := 21) h.sto
  have c23 := qB (i := 23) h.sto
  have hl := lB h.sto
  have DN := hid (down8 sb tb cb qb dp ib mb cap n D S wn 0 l _ none 1 now w h.sto h.dv)
  have TL := hid (fun W => tail16 a 0 c [] 1 W rfl (by omega) (fun i hi => by simp [regC] at hi) (fun h => ⟨rfl, h0 h⟩))
  rw [tailD_nil] at TL
  clear h h0
  go_enter Tryz.func216, Tryz.ntmps216
  go_wp2_with fail
  with_reducible refine DN.out.mono ?_
  rintro e w1 ⟨rfl, rfl⟩
  have KD := hid (show w.drew.cell? ⟨sb, 21, none⟩ = some (.slice a 0 c) /\ w.drew.cell? ⟨sb, 23, none⟩ = some (.int .i64 1) from ⟨c21, c23⟩)
  have KB := hid (show ∀ W, Below w.heap.size w W -> W.cell? ⟨sb, 21, none⟩ = some (.slice a 0 c) /\ W.cell? ⟨sb, 23, none⟩ = some (.int .i64 1) from fun W hW => ⟨(hW.cell (p := ⟨sb, 21, none⟩) hl).trans c21, (hW.cell (p := ⟨sb, 23, none⟩) hl).trans c23⟩)
  go_upto_region 3 with fail
  go_region_held3 (fun w' => w'.cell? ⟨sb, 21, none⟩ = some (.slice a 0 c) /\ w'.cell? ⟨sb, 23, none⟩ = some (.int .i64 1)) (first | with_reducible exact hS1 | with_reducible exact KD.out)
    (first
      | ((go_at_call 282); (with_reducible refine (TL.out _).mono ?_); (rintro e x1 ⟨rfl, hb1⟩); (have hB1 := bidd hb1); (have hS1 := KB.out _ hB1)))
  have B1 := hid hB1
  clear hb1 hB1 hS1
  go_wp2_with fail
  go_ret
  exact ⟨rfl, B1.out⟩
theorem sclear0 (h : Ss0 w T sb tb cb qb dp ib mb cap n D S wn l now N P Q R lv col) (hch : chB l [] = true) :
    Calls prog 211 #[.pointer (some ⟨sb, 0, none⟩)] w fun e w' => e = .returned (.int .i64 0) /\ Below w.heap.size w w' := by
  obtain ⟨a, c, rfl, h0⟩ := own_z h.lr
  have hl := lB h.sto
  have CH := hid (fun W => choose8 l a 0 c [] W rfl (by omega) (fun i hi => by simp [regC] at hi))
  rw [hch] at CH
  have K := hid (show ∀ W, Below w.heap.size w W -> W.cell? ⟨sb, 12, none⟩ = some (.int .i64 l.id) /\ W.cell? ⟨sb, 13, none⟩ = some (.int .i64 l.ver) /\ W.cell? ⟨sb, 14, none⟩ = some (.int .i64 l.rs) /\ W.cell? ⟨sb, 15, none⟩ = some (.int .i64 l.rg) /\ W.cell? ⟨sb, 21, none⟩ = some (.slice a 0 c) from fun W hW =>
    have e := (hW.block sb hl).trans h.sto
    ⟨qB e, qB e, qB e, qB e, qB e⟩)
  have KD := hid (K.out w.drew (Below.refl _ _).drew)
  clear h h0 hch
  go_enter Tryz.func211, Tryz.ntmps211
  go_wp2_with fail
  go_loopw [3] (fun d wr => d = .bool false /\ wr = w) (fun _ _ => 0)
  case atStart => exact ⟨rfl, rfl⟩
  case round =>
    obtain ⟨rfl, hwr⟩ := hrel
    subst hwr
    go_upto_region 2 with fail
    go_region_held3 (fun w' => w'.cell? ⟨sb, 12, none⟩ = some (.int .i64 l.id) /\ w'.cell? ⟨sb, 13, none⟩ = some (.int .i64 l.ver) /\ w'.cell? ⟨sb, 14, none⟩ = some (.int .i64 l.rs) /\ w'.cell? ⟨sb, 15, none⟩ = some (.int .i64 l.rg) /\ w'.cell? ⟨sb, 21, none⟩ = some (.slice a 0 c)) (first | with_reducible exact hS1 | with_reducible exact KD.out)
      (first
        | ((go_at_call 212); (with_reducible refine (CH.out _).mono ?_); (rintro e x1 ⟨rfl, hb1⟩); (have hB1 := bidd hb1); (have hS1 := K.out _ hB1)))
    have B1 := hid hB1
    clear hb1 hB1 hS1
    go_wp2_with fail
    go_ret
    exact ⟨rfl, B1.out⟩
end
end Go.Proofs.YtbikkioipamlmaaGreatDoor
