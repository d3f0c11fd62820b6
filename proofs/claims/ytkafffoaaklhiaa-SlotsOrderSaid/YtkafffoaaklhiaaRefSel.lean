/-
  The contract of the reference's Order.
-/
import Derived.Test.YtkafffoaaklhiaaRefOrder
import Derived.Deep.AppendLies
namespace Go.Proofs.Ytkafffoaaklhiaa
open Go.RowKit
set_option linter.unusedVariables false
theorem make_bools2 (n : Nat) (hn : n ≤ 1000) (W : World) : ∃ W', (Instr.makeSlice 32 (.int .i64 (n : Int)) (.int .i64 (n : Int))).run Try.prog W = .ok (.slice (some ⟨W.heap.size, 0, none⟩) n n) W' ∧
    W'.ownsRow 0 4 1 (.slice (some ⟨W.heap.size, 0, none⟩) n n) n (List.map Value.bool (List.replicate n false)) ∧ Below W.heap.size W W' := by
  obtain ⟨i, hi, hz, hs, hb⟩ := info_parts boolinfo
  have hr := run_make (P := Try.prog) W 32 4 i _ Try.underlying32 hi hz .i64 .i64 (n : Int) (n : Int) (by omega) (by omega) (by rw [hb]; omega) (by omega)
  rw [Int.toNat_natCast, hs] at hr
  refine ⟨_, hr, ⟨by simp, .inr ⟨W.heap.size, n, madeCells #[.bool false] (n * 1), rfl, Nat.zero_le _, ?_, Nat.le_refl _, by unfold maxLen; omega, size_madeCells _ _, ?_⟩⟩, (Below.refl _ _).alloc (Nat.le_refl _) _⟩
  · show (W.heap.push _)[W.heap.size]? = _
    simp
    rfl
  · rw [List.take_of_length_le (by rw [Array.length_toList, size_madeCells]; exact Nat.le_refl _), Nat.mul_one]
    unfold madeCells
    refine List.ext_getElem? fun j => ?_
    simp only [List.map_replicate]
    by_cases hj : j < n
    · simp [hj, Nat.mod_one]
    · simp [hj]
structure SelW (w wr : World) (a : Option Addr) (l : List Reg) (n sb : Nat) (v : Value) (j : Nat) (O : List Reg) (u : List Bool) : Prop where
  vals : Vals wr a (regC l)
  out : wr.ownsRow w.heap.size 36 10 v j (regC O)
  seen : wr.ownsRow 0 4 1 (.slice (some ⟨sb, 0, none⟩) n n) n (u.map Value.bool)
  ne : v.ownBlock ≠ some sb
  sbn : w.heap.size ≤ sb
  bel : Below w.heap.size w wr
  ul : u.length = l.length
  ol : O.length = j
  srt : O ++ sortR (restF l u) = sortR l
  av : 0 < l.length → ∀ b off, a = some ⟨b, off, none⟩ → b < w.heap.size
theorem SelW.below {w wr w' : World} {a : Option Addr} {l : List Reg} {n sb j : Nat} {v : Value} {O : List Reg} {u : List Bool} (h : SelW w wr a l n sb v j O u) (hb : Below wr.heap.size wr w') : SelW w w' a l n sb v j O u :=
  ⟨h.vals.below hb (Nat.le_refl _), own_below h.out hb, own_below h.seen hb, h.ne, h.sbn, bel_trans h.bel hb, h.ul, h.ol, h.srt, h.av⟩
theorem SelW.reg {w wr : World} {a : Option Addr} {l : List Reg} {n sb j : Nat} {v : Value} {O : List Reg} {u : List Bool} (h : SelW w wr a l n sb v j O u) (k : Nat) (r : Reg) (hr : l[k]? = some r) : ∃ b off, a = some ⟨b, off, none⟩ ∧ b < wr.heap.size ∧ RegCells wr b (off + k * 10) r := by
  have hk := (List.getElem?_eq_some_iff.1 hr).1
  obtain ⟨b, off, ha, hb, hc⟩ := h.vals.regs.at k hk
  refine ⟨b, off, ha, hb, ?_⟩
  simp only [hr, Option.getD_some] at hc
  exact hc
theorem SelW.usedAt {w wr : World} {a : Option Addr} {l : List Reg} {n sb j : Nat} {v : Value} {O : List Reg} {u : List Bool} (h : SelW w wr a l n sb v j O u) (hl : l.length = n) (k : Nat) (hk : k < n) : ∃ c, u[k]? = some c ∧ wr.cell? ⟨sb, k, none⟩ = some (.bool c) ∧ wr.frozen? ⟨sb, k, none⟩ = false := by
  have hu := h.ul
  have hk2 : k < u.length := by omega
  refine ⟨u[k], List.getElem?_eq_getElem hk2, ?_, h.seen.frozenAt k⟩
  rw [h.seen.cellAt k (by omega), List.getElem?_map, List.getElem?_eq_getElem hk2]; rfl
/-- the chosen one is marked -/
theorem SelW.mark {w wr : World} {a : Option Addr} {l : List Reg} {n sb j b : Nat} {v : Value} {O : List Reg} {u : List Bool} {r : Reg} (h : SelW w wr a l n sb v j O u) (hb : bestF l u l.length = some b) (hr : l[b]? = some r) :
    Vals (wr.setCell ⟨sb, b, none⟩ (.bool true)) a (regC l) ∧ (wr.setCell ⟨sb, b, none⟩ (.bool true)).ownsRow w.heap.size 36 10 v j (regC O) ∧ (wr.setCell ⟨sb, b, none⟩ (.bool true)).ownsRow 0 4 1 (.slice (some ⟨sb, 0, none⟩) n n) n ((u.set b true).map Value.bool) ∧
      Below w.heap.size w (wr.setCell ⟨sb, b, none⟩ (.bool true)) ∧ (O ++ [r]) ++ sortR (restF l (u.set b true)) = sortR l := by
  have hf : Fr (fun j => j = sb) wr (wr.setCell ⟨sb, b, none⟩ (.bool true)) := ⟨rfl, rfl, rfl, by simp [World.setCell], fun k _ hne => Below.heap_setCell _ _ _ _ hne⟩
  obtain ⟨s1, _⟩ := h.seen.stored b (.bool true)
  refine ⟨h.vals.fr hf (fun b off ha e => by have := h.av (by have := (best_some hb).1; omega) b off ha; have := h.sbn; omega), own_fr h.out hf (fun g hg e => by subst e; exact h.ne hg), by rw [List.map_set]; exact s1, Fr.below h.bel hf h.bel.size (fun j hj => by have := h.sbn; omega), ?_⟩
  rw [List.append_assoc, List.singleton_append, ← (select_step h.ul hb hr).2]
  exact h.srt
theorem SelW.room {w wr : World} {a : Option Addr} {l : List Reg} {n sb j : Nat} {v : Value} {O : List Reg} {u : List Bool} (h : SelW w wr a l n sb v j O u) (hj : j < l.length) : ∃ b r, bestF l u l.length = some b ∧ l[b]? = some r ∧ b < l.length := by
  cases hb : bestF l u l.length with
  | some b =>
    have h1 := (best_some hb).1
    exact ⟨b, l[b], rfl, List.getElem?_eq_getElem h1, h1⟩
  | none =>
    exfalso
    have hn := rest_none h.ul (best_none hb)
    have := congrArg List.length h.srt
    rw [hn, List.length_append, (sort_all l).2.2, h.ol] at this
    simp [sortR] at this
    omega
theorem sel_app {w w4 w5 : World} {a : Option Addr} {l O : List Reg} {n sb j g' cap' : Nat} {v : Value} {u' : List Bool} {r : Reg} {o : Obj} (m1 : Vals w4 a (regC l)) (m2 : w4.ownsRow w.heap.size 36 10 v j (regC O)) (m3 : w4.ownsRow 0 4 1 (.slice (some ⟨sb, 0, none⟩) n n) n (u'.map Value.bool))
    (ne : v.ownBlock ≠ some sb) (sbn : w.heap.size ≤ sb) (m4 : Below w.heap.size w w4) (ul : u'.length = l.length) (ol : O.length = j) (m5 : (O ++ [r]) ++ sortR (restF l u') = sortR l) (av : 0 < l.length → ∀ b off, a = some ⟨b, off, none⟩ → b < w.heap.size) (hsb : sb < w4.heap.size)
    (hown : w5.ownsRow w.heap.size 36 10 (.slice (some ⟨g', 0, none⟩) (j + 1) cap') (j + 1) (regC (O ++ [r]))) (hg : (w4.alloc o).grownBy w5 v.ownBlock) (hat : v.ownBlock = some g' ∨ g' = w4.heap.size + 1) :
    SelW w w5 a l n sb (.slice (some ⟨g', 0, none⟩) (j + 1) cap') (j + 1) (O ++ [r]) u' := by
  have hf : Fr (fun j => v.ownBlock = some j) (w4.alloc o) w5 := .of_grown hg (fun k e => e)
  have hb4 : Below w4.heap.size w4 (w4.alloc o) := (Below.refl _ _).alloc (Nat.le_refl _) _
  have hs4 := m4.size
  have hbel : Below w.heap.size w (w4.alloc o) := m4.trans (hb4.mono hs4)
  refine ⟨?_, hown, own_fr (own_below m3 hb4) hf (fun g hg e => ne (by rw [e, ← hg]; rfl)), ?_, sbn, Fr.below hbel hf hbel.size (fun j hj => (m2.lt j hj).1), ul, by simp [ol], m5, av⟩
  · intro i hi
    have hv := (m1.below hb4 (Nat.le_refl _)).fr hf (fun b off ha e => ?_)
    · exact hv i hi
    · have h1 := av (by rw [regC_len] at hi; omega) b off ha
      have h2 := (m2.lt b e).1
      omega
  · rcases hat with e | e
    · show some g' ≠ some sb
      rw [← e]; exact ne
    · simp [Value.ownBlock]; omega
def bI : Option Nat → Int
  | none => -1
  | some b => (b : Int)
set_option maxRecDepth 100000 in
set_option maxHeartbeats 16000000 in
theorem reforder20 (a : Option Addr) (n cap : Nat) (l : List Reg) (w : World) (hl : l.length = n) (hn : n < 20) (hv : Vals w a (regC l)) :
    Calls Try.prog 20 #[.slice a n cap] w fun e w' => ∃ v, e = .returned v ∧ w'.ownsRow w.heap.size 36 10 v n (regC (sortR l)) ∧ Below w.heap.size w w' := by
  obtain ⟨i0, hi, hz0, hz1, hz2⟩ := info_parts reginfo
  have I1 := Lib.hid hi; have I2 := Lib.hid hz0; have I3 := Lib.hid hz1; have I4 := Lib.hid hz2
  clear hi hz0 hz1 hz2
  obtain ⟨W1, hm, hown, hbel⟩ := make_bools2 n (by omega) w
  have S0 := Lib.hid (show SelW w W1 a l n w.heap.size (.slice none 0 0) 0 [] (List.replicate n false) from
    ⟨hv.below hbel (Nat.le_refl _), World.ownsRow_nil _ _ _ _, hown, by simp [Value.ownBlock], Nat.le_refl _, hbel, by simp [hl], rfl, by rw [← hl, rest_all]; rfl, fun h0 b off ha => by
      obtain ⟨b', off', ha', hb', _⟩ := hv 0 (by rw [regC_len]; omega)
      rw [ha] at ha'; cases ha'; exact hb'⟩)
  have HL := Lib.hid hl
  clear hv hown hbel hl
  go_enter Try.func20, Try.ntmps20
  go_wp2_with fail
  clear hm
  go_loopg [3, 5, 6, 12, 16] n (fun gk v0 _ _ jv _ wr => ∃ (v : Value) (j : Nat) (O : List Reg) (u : List Bool), v = v0 ∧ jv = .int .i64 j ∧ j ≤ n ∧ gk = n - j ∧ SelW w wr a l n w.heap.size v j O u)
  case atStart => exact ⟨_, 0, [], _, rfl, rfl, Nat.zero_le _, rfl, S0.out⟩
  case round =>
    obtain ⟨v, j, O, u, rfl, rfl, hj, hgk, hs⟩ := hrel
    have GK := Lib.hid hgk
    have HS := Lib.hid hs
    clear hgk hs S0
    by_cases hlt : j < n
    · have hjI : (j : Int) < n := by omega
      go_wp2_with fail
      go_loopg [5, 6, 16] n (fun gk bv _ kv wr' => ∃ k : Nat, kv = .int .i64 k ∧ k ≤ n ∧ gk = n - k ∧ bv = .int .i64 (bI (bestF l u k)) ∧ SelW w wr' a l n w.heap.size v j O u)
      case atStart => exact ⟨0, rfl, Nat.zero_le _, rfl, rfl, HS.out⟩
      case round =>
        obtain ⟨k, rfl, hk, hgk, rfl, hs⟩ := hrel
        have GK2 := Lib.hid hgk
        have HS2 := Lib.hid hs
        clear hgk hs HS
        by_cases hkn : k < n
        · have hkI : (k : Int) < n := by omega
          obtain ⟨c, hc, cu, fu⟩ := HS2.out.usedAt HL.out k hkn
          obtain ⟨r, hr⟩ : ∃ r, l[k]? = some r := ⟨_, List.getElem?_eq_getElem (by rw [HL.out]; exact hkn)⟩
          have BS := Lib.hid (show bestF l u (k + 1) = match bestF l u k with
            | none => if u[k]?.getD true = false then some k else none
            | some b => if u[k]?.getD true = false ∧ (l[k]?.getD reg0).seq < (l[b]?.getD reg0).seq then some k else some b from rfl)
          rw [hc, hr, Option.getD_some, Option.getD_some] at BS
          obtain ⟨ab, off, rfl, hb, g0, g1, g2, g3, g4, g5, g6, g7, g8, g9⟩ := HS2.out.reg k r hr
          clear hr hc
          cases hbf : bestF l u k with
          | none =>
            rw [hbf] at BS
            cases c with
            | true =>
              have B1 := Lib.hid (show bestF l u (k + 1) = none from by rw [BS.out]; rfl)
              simp only [bI]
              clear BS hbf
              go_wp2_with fail
              go_quiet (fail)
              go_wp2_with fail
              have S3 := Lib.hid (HS2.out.below (below_drewN (Below.refl _ _) nq))
              go_roundg (n - (k + 1))
              case measure => have := GK2.out; omega
              case rel => exact ⟨k + 1, by go_num, by omega, rfl, by rw [B1.out]; rfl, S3.out⟩
            | false =>
              have B1 := Lib.hid (show bestF l u (k + 1) = some k from by rw [BS.out]; rfl)
              simp only [bI]
              clear BS hbf
              go_wp2_with fail
              go_quiet (fail)
              go_wp2_with fail
              have S3 := Lib.hid (HS2.out.below (below_drewN (Below.refl _ _) nq))
              go_roundg (n - (k + 1))
              case measure => have := GK2.out; omega
              case rel => exact ⟨k + 1, by go_num, by omega, rfl, by rw [B1.out]; rfl, S3.out⟩
          | some bb =>
            rw [hbf] at BS
            have hbk := (best_some hbf).1
            obtain ⟨rb, hrb⟩ : ∃ r, l[bb]? = some r := ⟨_, List.getElem?_eq_getElem (by rw [HL.out]; omega)⟩
            obtain ⟨ab', off', hab, hb', h0, h1, h2, h3, h4, h5, h6, h7, h8, h9⟩ := HS2.out.reg bb rb hrb
            cases hab
            simp only [hrb, Option.getD_some] at BS
            have hbI : (bb : Int) < n := by omega
            cases c with
            | true =>
              have B1 := Lib.hid (show bestF l u (k + 1) = some bb from by rw [BS.out]; simp)
              simp only [bI]
              clear BS hbf hrb
              go_wp2_with fail
              go_quiet (fail)
              go_wp2_with fail
              have S3 := Lib.hid (HS2.out.below (below_drewN (Below.refl _ _) nq))
              go_roundg (n - (k + 1))
              case measure => have := GK2.out; omega
              case rel => exact ⟨k + 1, by go_num, by omega, rfl, by rw [B1.out]; rfl, S3.out⟩
            | false =>
              by_cases hlt2 : r.seq < rb.seq
              · have B1 := Lib.hid (show bestF l u (k + 1) = some k from by rw [BS.out, if_pos ⟨rfl, hlt2⟩])
                have hdec : decide (r.seq < rb.seq) = true := decide_eq_true hlt2
                simp only [bI]
                clear BS hbf hrb hlt2
                go_wp2_with fail
                go_quiet (fail)
                go_wp2_with fail
                have S3 := Lib.hid (HS2.out.below (below_drewN (Below.refl _ _) nq))
                go_roundg (n - (k + 1))
                case measure => have := GK2.out; omega
                case rel => exact ⟨k + 1, by go_num, by omega, rfl, by rw [B1.out]; rfl, S3.out⟩
              · have B1 := Lib.hid (show bestF l u (k + 1) = some bb from by rw [BS.out, if_neg (fun h => hlt2 h.2)])
                have hdec : decide (r.seq < rb.seq) = false := decide_eq_false hlt2
                simp only [bI]
                clear BS hbf hrb hlt2
                go_wp2_with fail
                go_quiet (fail)
                go_wp2_with fail
                have S3 := Lib.hid (HS2.out.below (below_drewN (Below.refl _ _) nq))
                go_roundg (n - (k + 1))
                case measure => have := GK2.out; omega
                case rel => exact ⟨k + 1, by go_num, by omega, rfl, by rw [B1.out]; rfl, S3.out⟩
        · have hkn2 : k = n := by omega
          subst hkn2
          clear hkn GK2
          obtain ⟨bb, r, hbf, hr, hbl⟩ := HS2.out.room (by rw [HL.out]; exact hlt)
          obtain ⟨m1, m2, m3, m4, m5⟩ := HS2.out.mark hbf hr
          obtain ⟨c, _, cu, fu⟩ := HS2.out.usedAt HL.out bb (by rw [← HL.out]; exact hbl)
          rw [HL.out] at hbf hbl
          rw [hbf]
          simp only [bI]
          have M := Lib.hid (And.intro m1 (And.intro m2 (And.intro m3 (And.intro m4 m5))))
          have hbI : (bb : Int) < k := by omega
          have OL := HS2.out.ol
          have NE := Lib.hid HS2.out.ne
          have SBL := Lib.hid (HS2.out.seen.lt _ rfl).2
          have AV := Lib.hid HS2.out.av
          have UL := Lib.hid HS2.out.ul
          have HR := Lib.hid hr
          clear m1 m2 m3 m4 m5 hbf hr
          go_upto_region 13 with fail
          obtain ⟨w4, hw4⟩ : ∃ w4, wr.setCell ⟨w.heap.size, bb, none⟩ (.bool true) = w4 := ⟨_, rfl⟩
          rw [hw4] at M ⊢
          have SBL4 := Lib.hid (show w.heap.size < w4.heap.size from by rw [← hw4]; simpa [World.setCell] using SBL.out)
          clear hw4 cu fu HS2 SBL
          obtain ⟨b0, off, rfl, hb0, hcells⟩ := M.out.1.regs.at bb (by rw [HL.out]; exact hbl)
          rw [HR.out, Option.getD_some] at hcells
          obtain ⟨g0, g1, g2, g3, g4, g5, g6, g7, g8, g9⟩ := hcells
          go_wp2_with (at_builtin; refine Stop.out ?_)
          refine Stop.of ?_
          (with_reducible apply wpList_append_lies (hgd := rfl) (t := 24) (base := w.heap.size) (e := 36) (i := i0) (z := (.agg #[.int .i64 0, .int .i64 0, .int .i64 0, .int .i64 0, .int .i64 0, .int .i64 0, .int .i64 0, .int .i64 0, .int .i64 0, .int .i64 0])) (size := 10) (bytes := 80) (n := j) (xs := regC O) (m := 1) (news := regC [r]) (ht := Try.underlying24) (hi := I1.out) (hz := I2.out) (hsize := I3.out) (hby := I4.out) (hzs := rfl) (ad := ⟨w4.heap.size, 0, none⟩) (c := 1) (H := w4.heap.size + 1))
          case ho => exact rfl
          case hs => exact rfl
          case hx => exact rfl
          case hsz => decide
          case hown => exact M.out.2.1.alloc _
          case hl => exact rfl
          case hnews => exact World.news_of_block (t := 36) (fr := (0, 0)) (cs := #[.int .i64 r.ver, .int .i64 r.slot, .int .i64 r.lay, .int .i64 r.seq, .int .i64 r.tail, .int .i64 r.now, .int .i64 r.l.id, .int .i64 r.l.ver, .int .i64 r.l.rs, .int .i64 r.l.rg]) (heap_alloc_new w4 _)
          case h1 => exact regC_one _
          case hm => decide
          case h63 => exact Nat.le_trans (show j + 1 ≤ 20 by omega) (by decide)
          case hbytes => omega
          case hbase => exact Nat.le_of_lt (Nat.lt_of_lt_of_le SBL4.out (by simp))
          case hH => simp
          case h =>
            intro g' cap' w5 hown5 hgrow5 hat5 hlt5
            rw [← regC_app] at hown5
            have S5 := Lib.hid (sel_app (sb := w.heap.size) (u' := u.set bb true) M.out.1 M.out.2.1 M.out.2.2.1 NE.out (Nat.le_refl _) M.out.2.2.2.1 (by rw [List.length_set]; exact UL.out) OL M.out.2.2.2.2 AV.out SBL4.out hown5 hgrow5 hat5)
            clear hown5 hgrow5 hat5 hlt5 g0 g1 g2 g3 g4 g5 g6 g7 g8 g9 hb0 M
            go_wp2_with fail
            go_roundg (k - (j + 1))
            case measure => have := GK.out; omega
            case rel => exact ⟨_, j + 1, O ++ [r], u.set bb true, rfl, by go_num, by omega, rfl, S5.out⟩
    · have hjn : j = n := by omega
      subst hjn
      have FIN := Lib.hid (show wr.ownsRow w.heap.size 36 10 v j (regC (sortR l)) from by
        have h1 := congrArg List.length HS.out.srt
        rw [List.length_append, (sort_all l).2.2, (sort_all _).2.2, HS.out.ol, HL.out] at h1
        have h2 : sortR (restF l u) = [] := List.eq_nil_of_length_eq_zero (by rw [(sort_all _).2.2]; omega)
        have h3 := HS.out.srt
        rw [h2, List.append_nil] at h3
        rw [← h3]; exact HS.out.out)
      clear hlt GK
      go_wp2_with fail
      go_ret
      exact ⟨v, rfl, FIN.out, HS.out.bel⟩
end Go.Proofs.Ytkafffoaaklhiaa
