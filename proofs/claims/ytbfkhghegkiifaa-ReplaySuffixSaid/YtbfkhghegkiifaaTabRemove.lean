/-
  The contract of remove.
-/
import Derived.Test.YtbfkhghegkiifaaTabGet
import Derived.BigQuiet
namespace Go.Proofs.Ytbfkhghegkiifaa
open Go.RowKit
set_option linter.unusedVariables false
structure RemW (w wr : World) (g n cap b bx : Nat) (l : List Pl) : Prop where
  own : wr.ownsRow 0 71 7 (.slice (some ⟨g, 0, none⟩) n cap) n (placesC l)
  box : wr.heap[bx]? = some (.cells #[.int .i64 (b : Int), .slice (some ⟨g, 0, none⟩) n cap] 61 (0, 0))
  fr : Fr (fun j => j = g) w wr
  ne : bx ≠ g
structure RemL (home : ByteArray → Nat) (l0 : List Pl) (i0 n ek : Nat) (l : List Pl) (i k : Nat) : Prop where
  ri : RemI home l0 i0 l i k
  ln : l.length = n
  st : ∀ p ∈ l, p.st = 0 ∨ p.st = 1
  ks : ∀ p ∈ l, p.st = 1 → p.key.size ≤ 9223372036854775807
  far : dist n i k ≤ dist n i ek
  emp : ∃ p, l[ek]? = some p ∧ p.st = 0
theorem RemL.stay {home : ByteArray → Nat} {l0 l : List Pl} {i0 n ek i k : Nat} {p : Pl} (h : RemL home l0 i0 n ek l i k) (hp : l[k]? = some p) (h1 : p.st = 1) (hd : dist n (home p.key) k < dist n i k) : RemL home l0 i0 n ek l i (nxt n k) ∧ dist n (nxt n k) ek + 1 = dist n k ek := by
  have hk : k < n := by rw [← h.ln]; exact h.ri.kl
  have hi : i < n := by rw [← h.ln]; exact h.ri.il
  obtain ⟨q, hq, hq0⟩ := h.emp
  have he : ek < n := by rw [← h.ln]; exact (List.getElem?_eq_some_iff.1 hq).1
  have hke : k ≠ ek := fun e => by subst e; rw [hp] at hq; cases hq; omega
  have d1 := dist_cases n i k
  have d2 := dist_cases n i ek
  have d3 := dist_cases n k ek
  have d4 := nxt_cases n k
  have d5 := dist_cases n (nxt n k) ek
  have d6 := dist_cases n i (nxt n k)
  have hf := h.far
  have hln := h.ln
  refine ⟨⟨?_, h.ln, h.st, h.ks, ?_, h.emp⟩, ?_⟩
  · have := rem_stay h.ri hp h1 (by rw [hln]; exact hd) (by rw [hln]; omega)
    rw [hln] at this; exact this
  · omega
  · omega
theorem RemL.move {home : ByteArray → Nat} {l0 l : List Pl} {i0 n ek i k : Nat} {p : Pl} (h : RemL home l0 i0 n ek l i k) (hp : l[k]? = some p) (h1 : p.st = 1) (hh : home p.key < n) (hd : dist n i k ≤ dist n (home p.key) k) : RemL home l0 i0 n ek (l.set i p) k (nxt n k) ∧ dist n (nxt n k) ek + 1 = dist n k ek := by
  have hk : k < n := by rw [← h.ln]; exact h.ri.kl
  have hi : i < n := by rw [← h.ln]; exact h.ri.il
  obtain ⟨q, hq, hq0⟩ := h.emp
  have he : ek < n := by rw [← h.ln]; exact (List.getElem?_eq_some_iff.1 hq).1
  have hke : k ≠ ek := fun e => by subst e; rw [hp] at hq; cases hq; omega
  have hie : i ≠ ek := fun e => by
    subst e
    obtain ⟨r, hr, hr1⟩ := h.ri.hole
    rw [hr] at hq; cases hq; omega
  have d3 := dist_cases n k ek
  have d4 := nxt_cases n k
  have d5 := dist_cases n (nxt n k) ek
  have d6 := dist_cases n k (nxt n k)
  have hln := h.ln
  have hne : nxt n k ≠ k := by omega
  refine ⟨⟨?_, by rw [List.length_set]; exact h.ln, fun r hr => ?_, fun r hr => ?_, ?_, ⟨q, by rw [List.getElem?_set, if_neg hie]; exact hq, hq0⟩⟩, ?_⟩
  · have := rem_move h.ri hp h1 (by rw [hln]; exact hh) (by rw [hln]; exact hd) (by rw [hln]; exact hne)
    rw [hln] at this; exact this
  · rcases List.mem_or_eq_of_mem_set hr with h2 | h2
    · exact h.st r h2
    · rw [h2]; exact .inr h1
  · rcases List.mem_or_eq_of_mem_set hr with h2 | h2
    · exact h.ks r h2
    · rw [h2]; exact h.ks p (List.mem_of_getElem? hp)
  · omega
  · omega
theorem RemL.start {home : ByteArray → Nat} {l : List Pl} {i n ek : Nat} {p : Pl} (hI : Inv home l) (hln : l.length = n) (hst : ∀ p ∈ l, p.st = 0 ∨ p.st = 1) (hks : ∀ p ∈ l, p.st = 1 → p.key.size ≤ 9223372036854775807) (hp : l[i]? = some p) (h1 : p.st = 1) (he : ∃ q, l[ek]? = some q ∧ q.st = 0) : RemL home l i n ek l i (nxt n i) := by
  obtain ⟨q, hq, hq0⟩ := he
  have hi : i < n := by rw [← hln]; exact (List.getElem?_eq_some_iff.1 hp).1
  have hek : ek < n := by rw [← hln]; exact (List.getElem?_eq_some_iff.1 hq).1
  have hne : i ≠ ek := fun e => by subst e; rw [hp] at hq; cases hq; omega
  have d1 := dist_cases n i ek
  have d2 := nxt_cases n i
  have d3 := dist_cases n i (nxt n i)
  refine ⟨?_, hln, hst, hks, by omega, q, hq, hq0⟩
  have := rem_start hI hp h1 ⟨ek, q, hq, hq0⟩
  rw [hln] at this; exact this
theorem RemW.below {w wr w' : World} {g n cap b bx : Nat} {l : List Pl} (h : RemW w wr g n cap b bx l) (hb : Below wr.heap.size wr w') : RemW w w' g n cap b bx l := by
  have hf : Fr (fun _ => False) wr w' := .of_below hb
  exact ⟨own_fr h.own hf (fun _ _ f => f), (hb.block bx (blk_lt h.box)).trans h.box, h.fr.trans hf (fun _ f => f.elim), h.ne⟩
theorem fr_set7 (w : World) (g i : Nat) (p : Pl) : Fr (fun j => j = g) w (set7 w g i p) := by
  unfold set7
  exact ((((((fr_set _ _ _ _).trans (fr_set _ _ _ _) (fun j hj => .inl hj)).trans (fr_set _ _ _ _) (fun j hj => .inl hj)).trans (fr_set _ _ _ _) (fun j hj => .inl hj)).trans (fr_set _ _ _ _) (fun j hj => .inl hj)).trans (fr_set _ _ _ _) (fun j hj => .inl hj)).trans (fr_set _ _ _ _) (fun j hj => .inl hj)
theorem RemW.set {w wr : World} {g n cap b bx : Nat} {l : List Pl} (h : RemW w wr g n cap b bx l) (i : Nat) (p : Pl) : RemW w (set7 wr g i p) g n cap b bx (l.set i p) :=
  ⟨(own_set7 h.own i p).1, ((fr_set7 wr g i p).block bx (blk_lt h.box) h.ne).trans h.box, h.fr.trans (fr_set7 wr g i p) (fun _ hj => .inl hj), h.ne⟩
def RemE (w : World) (g n cap b : Nat) (l : List Pl) (key : ByteArray) (e : Ending) (w' : World) : Prop :=
  e = .returned (.tuple #[]) ∧ ∃ l', w'.ownsRow 0 71 7 (.slice (some ⟨g, 0, none⟩) n cap) n (placesC l') ∧ l'.length = n ∧ Inv (homeN b) l' ∧ usedN l' + 1 = usedN l ∧ (∀ p ∈ l', p.st = 0 ∨ p.st = 1) ∧ (∀ ke e, HasK l' ke e ↔ HasK l ke e ∧ ke ≠ key) ∧ Fr (fun j => j = g) w w'
theorem rem_fin {w wr : World} {g n cap b bx i0 i k ek : Nat} {l0 l : List Pl} {p p0 : Pl} (h : RemL (homeN b) l0 i0 n ek l i k) (hw : RemW w (set7 wr g i pEmpty) g n cap b bx (l.set i pEmpty)) (hI : Inv (homeN b) l0) (hp : l[k]? = some p) (h0 : p.st = 0) (hp0 : l0[i0]? = some p0) (hp01 : p0.st = 1) (hln : l0.length = n) :
    RemE w g n cap b l0 p0.key (.returned (.tuple #[])) (set7 wr g i pEmpty) := by
  obtain ⟨r1, r2, r3, r4⟩ := rem_end h.ri hI hp h0 hp0 hp01
  refine ⟨rfl, _, hw.own, by rw [List.length_set]; exact h.ln, r1, r2, fun q hq => ?_, r4, hw.fr⟩
  rcases List.mem_or_eq_of_mem_set hq with h2 | h2
  · exact h.st q h2
  · rw [h2]; exact .inl rfl
set_option maxRecDepth 100000 in
set_option maxHeartbeats 8000000 in
theorem remove28 (g n b cap i0 : Nat) (l : List Pl) (p0 : Pl) (w : World) (hn : n = 2 ^ b) (hb1 : 1 ≤ b) (hb : b ≤ 30) (hln : l.length = n) (hown : w.ownsRow 0 71 7 (.slice (some ⟨g, 0, none⟩) n cap) n (placesC l)) (hI : Inv (homeN b) l)
    (hst : ∀ p ∈ l, p.st = 0 ∨ p.st = 1) (hks : ∀ p ∈ l, p.st = 1 → p.key.size ≤ 9223372036854775807) (hp0 : l[i0]? = some p0) (hp1 : p0.st = 1) (he : ∃ (i : Nat) (p : Pl), l[i]? = some p ∧ p.st = 0) :
    Calls Try.prog 26 #[.agg #[.int .i64 (b : Int), .slice (some ⟨g, 0, none⟩) n cap], .int .i64 (i0 : Int)] w (RemE w g n cap b l p0.key) := by
  obtain ⟨ek, q, hq, hq0⟩ := he
  have hle := pow_le30 hb
  rw [← hn] at hle
  have hi0 : i0 < n := by rw [← hln]; exact (List.getElem?_eq_some_iff.1 hp0).1
  have hek : ek < n := by rw [← hln]; exact (List.getElem?_eq_some_iff.1 hq).1
  have hgl := (hown.lt g rfl).2
  have L0 := Lib.hid (RemL.start (ek := ek) hI hln hst hks hp0 hp1 ⟨q, hq, hq0⟩)
  have W0 := Lib.hid (show RemW w (w.alloc (.cells #[.int .i64 (b : Int), .slice (some ⟨g, 0, none⟩) n cap] 61)) g n cap b w.heap.size l from
    ⟨hown.alloc _, by show (w.heap.push _)[w.heap.size]? = _; simp, (Fr.refl _ w).alloc _, by omega⟩)
  have HO := Lib.hid (fun (k : ByteArray) (hk : k.size ≤ 9223372036854775807) W => home33 b (.slice (some ⟨g, 0, none⟩) n cap) k W hk)
  have AF := Lib.hid (fun i (hi : i < n) W => after34 n b i cap (b : Int) (some ⟨g, 0, none⟩) W hn hb hi)
  have AD := Lib.hid (fun h k (h1 : h < n) (h2 : k < n) => and_dist n b h k hn hb h1 h2)
  have HH := Lib.hid (fun (k : ByteArray) => homeN_lt k b hb1 hb)
  rw [← hn] at HH
  have HI := Lib.hid hI; have HP := Lib.hid hp0; have HP1 := Lib.hid hp1; have HLN := Lib.hid hln
  have AF0 := Lib.hid (AF.out i0 hi0)
  have D0 := Lib.hid (dist_lt (nxt_lt hi0) hek)
  clear hn hown hI hst hks hp0 hp1 hq hq0 hln hgl
  go_enter Try.func26, Try.ntmps26
  go_wp2_with fail
  with_reducible refine (AF0.out _).mono ?_
  rintro e w1 ⟨rfl, hb1'⟩
  have W1 := Lib.hid (W0.out.below hb1')
  clear hb1' AF0 W0
  go_wp2_with fail
  go_loopg [1, 4, 5] (dist n (nxt n i0) ek) (fun gk iv kv _ wr => ∃ i k l', iv = .int .i64 ((i : Nat) : Int) ∧ kv = .int .i64 ((k : Nat) : Int) ∧ dist n k ek = gk ∧ RemL (homeN b) l i0 n ek l' i k ∧ RemW w wr g n cap b w.heap.size l')
  case atStart => exact ⟨i0, nxt n i0, l, rfl, rfl, rfl, L0.out, W1.out⟩
  case round =>
    obtain ⟨i, k, l', rfl, rfl, hgk, hl, hw⟩ := hrel
    clear W1 L0
    have GK := Lib.hid hgk
    have HL := Lib.hid hl
    have HW := Lib.hid hw
    have hkn : k < n := by have := hl.ri.kl; rw [hl.ln] at this; exact this
    have hin : i < n := by have := hl.ri.il; rw [hl.ln] at this; exact this
    have hkI : (k : Int) < n := by omega
    have hiI : (i : Int) < n := by omega
    obtain ⟨p, hp⟩ : ∃ p, l'[k]? = some p := ⟨_, List.getElem?_eq_getElem hl.ri.kl⟩
    obtain ⟨ph, hph, hph1⟩ := hl.ri.hole
    obtain ⟨⟨c0, c1, c2, c3, c4, c5, c6⟩, _⟩ := own_cells hw.own k p hp
    obtain ⟨⟨i0', i1, i2, i3, i4, i5, i6⟩, ⟨f0, f1, f2, f3, f4, f5, f6⟩⟩ := own_cells hw.own i ph hph
    have b0 := blk_cell (i := 0) hw.box; have b1 := blk_cell (i := 1) hw.box
    simp only [List.getElem?_toArray, List.getElem?_cons_zero, List.getElem?_cons_succ] at b0 b1
    have HPk := Lib.hid hp
    have hst := hl.st p (List.mem_of_getElem? hp)
    clear hgk hl hw hph hph1
    by_cases h0 : p.st = 0
    · have hs0 : ((p.st : Int) == 1) = false := by simp [h0]
      have FIN := Lib.hid (fun wr' (h : set7 wr g i pEmpty = wr') => h ▸ rem_fin HL.out (HW.out.set i pEmpty) HI.out HPk.out h0 HP.out HP1.out HLN.out)
      clear h0 hst hp
      go_wp2_with fail
      obtain ⟨w4, hw4⟩ : ∃ w4, (((((((wr.setCell ⟨g, i * 7, none⟩ (.int .i64 0)).setCell ⟨g, i * 7 + 1, none⟩ (.string ⟨#[]⟩)).setCell ⟨g, i * 7 + 2, none⟩ (.int .i64 0)).setCell ⟨g, i * 7 + 3, none⟩ (.int .i64 0)).setCell ⟨g, i * 7 + 4, none⟩ (.int .i64 0)).setCell ⟨g, i * 7 + 5, none⟩ (.int .i64 0)).setCell ⟨g, i * 7 + 6, none⟩ (.bool false)) = w4 := ⟨_, rfl⟩
      have hw4' : set7 wr g i pEmpty = w4 := hw4
      rw [hw4]
      go_end0
      exact FIN.out _ hw4'
    · have h1 : p.st = 1 := by omega
      have hs0 : ((p.st : Int) == 1) = true := by simp [h1]
      have hks := HL.out.ks p (List.mem_of_getElem? hp) h1
      have HOM := Lib.hid (HO.out p.key hks)
      obtain ⟨hhl, hhe⟩ := HH.out p.key
      have HEQ := Lib.hid hhe
      rw [hhe] at HOM
      generalize hhm : homeN b p.key = hm at *
      have DA := Lib.hid (AD.out hm k hhl hkn)
      have DB := Lib.hid (AD.out i k hin hkn)
      have hgw := (HW.out.own.lt g rfl).2
      have hbw := blk_lt HW.out.box
      have HHM := Lib.hid hhm
      clear h0 hst hp hhe hhm
      go_upto_region 4 with fail
      refine wp_region_ext wr.heap.size (by kernel_rfl) (by kernel_rfl) ?_
      have hx := fun (x : Ext wr.heap.size wr) b o h => Ext.cell x b o h
      repeat (go_big_quiet_step (first | (go_at_call 31; with_reducible exact Calls.ext (Nat.le_refl _) (HOM.out _)) | (with_reducible exact rfl)))
      refine wpQuiet_nil ?_
      rintro w3 ⟨⟨_, hb3⟩, rfl⟩
      have HW3 := Lib.hid (HW.out.below hb3)
      rw [DA.out]
      obtain ⟨dh, hdh⟩ : ∃ d, dist n hm k = d := ⟨_, rfl⟩
      obtain ⟨di, hdi⟩ : ∃ d, dist n i k = d := ⟨_, rfl⟩
      have HDH := Lib.hid hdh
      have HDI := Lib.hid hdi
      rw [hdh] at DA
      rw [hdi] at DB
      rw [hdh]
      have AFT := Lib.hid (AF.out k hkn)
      clear hx c0 c1 c2 c3 c4 c5 c6 i0' i1 i2 i3 i4 i5 i6 f0 f1 f2 f3 f4 f5 f6 b0 b1 hdh hdi hks hb3 hgw hbw
      obtain ⟨⟨c0, c1, c2, c3, c4, c5, c6⟩, _⟩ := own_cells HW3.out.own k p HPk.out
      obtain ⟨ph, hph, _⟩ := HL.out.ri.hole
      obtain ⟨⟨i0', i1, i2, i3, i4, i5, i6⟩, ⟨f0, f1, f2, f3, f4, f5, f6⟩⟩ := own_cells HW3.out.own i ph hph
      have b0 := blk_cell (i := 0) HW3.out.box; have b1 := blk_cell (i := 1) HW3.out.box
      simp only [List.getElem?_toArray, List.getElem?_cons_zero, List.getElem?_cons_succ] at b0 b1
      clear hph
      by_cases hd : di ≤ dh
      · have hdb : decide ((dh : Int) ≥ bits .and .i64 ((k : Int) - (i : Int)) ((n : Int) - 1)) = true := by rw [DB.out, decide_eq_true_iff]; omega
        obtain ⟨L2, M2⟩ := HL.out.move HPk.out h1 (by rw [HHM.out]; exact hhl) (by rw [HHM.out, HDH.out, HDI.out]; exact hd)
        have L2H := Lib.hid L2
        have M2H := Lib.hid M2
        have HW4 := Lib.hid (fun wr' (h : set7 w3 g i p = wr') => show RemW w wr'.drew g n cap b w.heap.size (l'.set i p) from (h ▸ HW3.out.set i p : RemW w wr' g n cap b w.heap.size (l'.set i p)).below (Below.refl _ _).drew)
        clear hd L2 M2
        have hpst : (p.st : Int) = 1 := by omega
        go_wp2_with fail
        go_region
        obtain ⟨w4, hw4⟩ : ∃ w4, (((((((w3.setCell ⟨g, i * 7, none⟩ (.int .i64 1)).setCell ⟨g, i * 7 + 1, none⟩ (.string p.key)).setCell ⟨g, i * 7 + 2, none⟩ (.int .i64 p.en.seq)).setCell ⟨g, i * 7 + 3, none⟩ (.int .i64 p.en.off)).setCell ⟨g, i * 7 + 4, none⟩ (.int .i64 p.en.len)).setCell ⟨g, i * 7 + 5, none⟩ (.int .i64 p.en.exp)).setCell ⟨g, i * 7 + 6, none⟩ (.bool p.en.hit)) = w4 := ⟨_, rfl⟩
        have hw4' : set7 w3 g i p = w4 := by unfold set7; rw [h1]; exact hw4
        rw [hw4]
        have W4 := Lib.hid (HW4.out w4 hw4')
        generalize w4.drew = w5 at *
        clear hw4 hw4' HW4 c0 c1 c2 c3 c4 c5 c6 i0' i1 i2 i3 i4 i5 i6 f0 f1 f2 f3 f4 f5 f6 b0 b1
        have b0 := blk_cell (i := 0) W4.out.box; have b1 := blk_cell (i := 1) W4.out.box
        simp only [List.getElem?_toArray, List.getElem?_cons_zero, List.getElem?_cons_succ] at b0 b1
        go_wp2_with fail
        with_reducible refine (AFT.out _).mono ?_
        rintro e w6 ⟨rfl, hb6⟩
        have W6 := Lib.hid (W4.out.below hb6)
        clear b0 b1 hb6
        go_wp2_with fail
        go_roundg (dist n (nxt n k) ek)
        case measure => have := GK.out; have := M2H.out; omega
        case rel => exact ⟨k, nxt n k, _, rfl, rfl, rfl, L2H.out, W6.out⟩
      · have hdb : decide ((dh : Int) ≥ bits .and .i64 ((k : Int) - (i : Int)) ((n : Int) - 1)) = false := by rw [DB.out, decide_eq_false_iff_not]; omega
        obtain ⟨L2, M2⟩ := HL.out.stay HPk.out h1 (by rw [HHM.out, HDH.out, HDI.out]; omega)
        have L2H := Lib.hid L2
        have M2H := Lib.hid M2
        clear hd L2 M2
        go_wp2_with fail
        with_reducible refine (AFT.out _).mono ?_
        rintro e w6 ⟨rfl, hb6⟩
        have W6 := Lib.hid (HW3.out.below hb6)
        clear b0 b1 hb6
        go_wp2_with fail
        go_roundg (dist n (nxt n k) ek)
        case measure => have := GK.out; have := M2H.out; omega
        case rel => exact ⟨i, nxt n k, _, rfl, rfl, rfl, L2H.out, W6.out⟩
end Go.Proofs.Ytbfkhghegkiifaa
