/-
  Pairs: the pairs of a table, in ascending order of the keys.
-/
import Derived.Test.YtbfkhghegkiifaaSortKeys
import Derived.Test.YtbfkhghegkiifaaPairsMem
import Derived.Deep.LoopGhost
import Derived.Test.YtbfkhghegkiifaaRefList
namespace Go.Proofs.Ytbfkhghegkiifaa
open Go.RowKit Go.Maps
set_option linter.unusedVariables false
theorem strK : Keyed Try.prog 9 := string_keyed Try.underlying9
theorem keyK {k : ByteArray} (h : k.size ≤ maxLen) : keyOf Try.prog 9 (.string k) = some (klit k) := WideMaps.keyOf_string_mk Try.underlying9 h
theorem mapE : Try.prog.underlying 68 = some (.map 9 36) := Try.underlying68
theorem zeroE (w : World) : (zeroValue 36).run Try.prog w = .ok (entV ent0) w := Try.zeroValue36 w
theorem own_below {w w' : World} {H : Type} {k : TypeId} {R : Value → Option (DataW H × List MemPlace)} {b n : Nat} {D : DataW H} (h : w.ownsMap Try.prog k R b n D) (hb : Below w.heap.size w w') : w'.ownsMap Try.prog k R b n D := by
  have hlt := h.lt
  obtain ⟨es, clock, h1, F, hs, hD⟩ := h
  exact ⟨es, clock, (hb.block b hlt).trans h1, F, hs, hD⟩
/-- the gathering of the pairs in a map -/
structure GaR (w wr : World) (s0 s1 : Value) (ps : List Pr) : Prop where
  bel : Below w.heap.size w wr
  own : wr.ownsMap Try.prog 9 entR w.heap.size ps.length (datum ps)
  blk : wr.heap[w.heap.size + 1]? = some (.cells #[s0, s1] 59 (0, 0))
theorem GaR.drewN {w wr : World} {s0 s1 : Value} {ps : List Pr} (h : GaR w wr s0 s1 ps) (n : Nat) : GaR w (wr.drewN n) s0 s1 ps := ⟨below_drewN h.bel n, h.own, h.blk⟩
theorem GaR.alloc {w wr : World} {s0 s1 : Value} {ps : List Pr} (h : GaR w wr s0 s1 ps) (o : Obj) : GaR w (wr.alloc o) s0 s1 ps :=
  ⟨h.bel.alloc h.bel.size o, h.own.alloc o, (Below.heap_alloc wr o _ (blk_lt h.blk)).trans h.blk⟩
theorem GaR.put {w wr w1 : World} {s0 s1 : Value} {ps : List Pr} (h : GaR w wr s0 s1 ps) {x : Pr} (own1 : w1.ownsMap Try.prog 9 entR w.heap.size (ps.length + 1) ((datum ps).put (klit x.key) (.held x.en))) (g : wr.grownBy w1 (some w.heap.size)) : GaR w w1 s0 s1 (ps ++ [x]) := by
  refine ⟨h.bel.grown g h.bel.size (fun j hj => by cases hj; exact Nat.le_refl _), ?_, (g.block _ (blk_lt h.blk) (by simp)).trans h.blk⟩
  rw [datum_snoc, List.length_append]
  exact own1
/-- what the loop over the sorted keys keeps -/
structure OuR (w wr : World) (v : Value) (qs : List Pr) : Prop where
  bel : Below w.heap.size w wr
  own : wr.ownsRow w.heap.size 38 6 v qs.length (pairsC qs)
theorem OuR.app {w wr w1 : World} {v v1 : Value} {qs : List Pr} {x : Pr} {o : Obj} (h : OuR w wr v qs) (own1 : w1.ownsRow w.heap.size 38 6 v1 (qs.length + 1) (pairsC qs ++ prC x)) (g : (wr.alloc o).grownBy w1 v.ownBlock) : OuR w w1 v1 (qs ++ [x]) := by
  refine ⟨(h.bel.alloc h.bel.size o).grown g (h.bel.alloc h.bel.size o).size (fun j hj => (h.own.lt j hj).1), ?_⟩
  rw [List.length_append, pairsC_append, pairsC_one]
  exact own1
def PairsE (w : World) (T : Tab) (e : Ending) (w' : World) : Prop :=
  ∃ v qs, e = .returned v ∧ Asc qs ∧ qs.Perm (prs T) ∧ w'.ownsRow w.heap.size 38 6 v qs.length (pairsC qs) ∧ Below w.heap.size w w'
def accP (T : Tab) (k : Nat) : List Pr := if k = 0 then [] else if k = 1 then prsOf T.now else prs T
theorem accP_zero (T : Tab) : accP T 0 = [] := rfl
theorem accP_two (T : Tab) : accP T 2 = prs T := rfl
theorem selP {w : World} {T : Tab} {an ao : Option Addr} {cn co : Nat} (hn : Vals w an (placesC T.now)) (ho : Vals w ao (placesC T.old)) (hn1 : T.now.length ≤ cn) (ho1 : T.old.length ≤ co) (hn2 : cn ≤ maxLen) (ho2 : co ≤ maxLen) (k : Nat) (hk : k < 2) :
    ∃ a l cap, (#[Value.slice an T.now.length cn, .slice ao T.old.length co] : Array Value)[k]? = some (.slice a l.length cap) ∧ Vals w a (placesC l) ∧ l.length ≤ cap ∧ cap ≤ maxLen ∧ accP T (k + 1) = accP T k ++ prsOf l ∧ (∀ p ∈ l, p.st = 1 → Has T p.key p.en) := by
  have hm : ∀ (l : List Pl) p, p ∈ l → p.st = 1 → HasK l p.key p.en := fun l p hp h1 => by
    obtain ⟨i, hi⟩ := List.mem_iff_getElem?.1 hp
    exact ⟨i, p, hi, h1, rfl, rfl⟩
  rcases (by omega : k = 0 ∨ k = 1) with rfl | rfl
  · exact ⟨an, T.now, cn, rfl, hn, hn1, hn2, rfl, fun p hp h1 => .inl (hm _ p hp h1)⟩
  · exact ⟨ao, T.old, co, rfl, ho, ho1, ho2, rfl, fun p hp h1 => .inr (hm _ p hp h1)⟩
theorem accP_le {T : Tab} (hI : TI T) (k : Nat) : (accP T k).length ≤ 1073741824 := by
  have h1 := prs_length hI
  have h2 := hI.len_le
  unfold accP
  split
  · simp
  · split
    · have : (prsOf T.now).length ≤ (prs T).length := by unfold prs; rw [List.length_append]; omega
      omega
    · omega
theorem take_snoc {α : Type} (l : List α) (i : Nat) (x : α) (h : l[i]? = some x) : l.take (i + 1) = l.take i ++ [x] := by
  rw [List.take_add_one, h]; rfl
theorem prsOf_take_le (l : List Pl) (i : Nat) : (prsOf (l.take i)).length ≤ (prsOf l).length := by
  have h : prsOf l = prsOf (l.take i) ++ prsOf (l.drop i) := by
    conv => lhs; rw [← List.take_append_drop i l]
    unfold prsOf
    rw [List.filterMap_append]
  rw [h, List.length_append]
  omega
theorem keys_perm {w : World} {b n : Nat} {ps : List Pr} (hown : w.ownsMap Try.prog 9 entR b n (datum ps)) (ha : Apart ps) : (ps.map (fun p => bys p.key)).Perm (strKeys (datum ps)) := by
  have hC : Collected (datum ps) (fun _ => false) (ps.map (fun p => bys p.key)) := by
    refine ⟨List.pairwise_map.2 (ha.imp (fun h e => h (bys_inj e))), fun x => ?_⟩
    have h := (datum_all ps).2.1 (bA x)
    rw [show Lit.string x = klit (bA x) from rfl, h, List.mem_map]
    constructor
    · rintro ⟨p, hp, rfl⟩; exact ⟨⟨p, hp, rfl⟩, rfl⟩
    · rintro ⟨⟨p, hp, hk⟩, _⟩; exact ⟨p, hp, by rw [hk]; rfl⟩
  exact hC.perm hown strK Try.underlying9 (fun _ => rfl)
theorem bA_bys (k : ByteArray) : bA (bys k) = k := rfl
theorem ks_perm {ks : List ByteArray} {ps : List Pr} {D : DataW Ent} (h : (ks.map bys).Perm (strKeys D)) (h2 : (ps.map (fun p => bys p.key)).Perm (strKeys D)) : ks.Perm (ps.map Pr.key) := by
  have h3 := (h.trans h2.symm).map bA
  rw [List.map_map, List.map_map] at h3
  have e1 : ks.map (bA ∘ bys) = ks := by conv => rhs; rw [← List.map_id ks]
                                         rfl
  rw [e1] at h3
  exact h3
set_option maxRecDepth 100000 in
/-- what a look-up of a pair's key gives -/
theorem look_pr {w : World} {b n : Nat} {ps : List Pr} (hown : w.ownsMap Try.prog 9 entR b n (datum ps)) (ha : Apart ps) {x : Pr} (hx : x ∈ ps) (hk : x.key.size ≤ maxLen) :
    (Instr.lookup 68 (.map (some b)) (.string x.key) false).run Try.prog w = .ok (.agg #[.int .i64 x.en.seq, .int .i64 x.en.off, .int .i64 x.en.len, .int .i64 x.en.exp, .bool x.en.hit]) w := by
  obtain ⟨u, q, hrun, hR⟩ := hown.lookup strK mapE (zeroE w) (entR_mk ent0) (keyK hk)
  rw [((datum_all ps).2.2 ha).2 x hx] at hR
  obtain ⟨e, rfl, he⟩ := entR_inv hR
  injection he with he
  subst he
  exact hrun
set_option maxRecDepth 100000 in
set_option maxHeartbeats 8000000 in
theorem pairs21 (tb : Nat) (vn vo : Value) (T : Tab) (w : World) (h : Tb w tb vn vo T) (hI : TI T) :
    Calls Try.prog 16 #[.pointer (some ⟨tb, 0, none⟩)] w (PairsE w T) := by
  obtain ⟨⟨_, t1, _, t3, _, _, _, _⟩, _⟩ := h.cells
  have htb := blk_lt h.blk
  obtain ⟨an, cn, rfl, vn1, ln1, mn1, _⟩ := ownsRow_vals h.now
  obtain ⟨ao, co, rfl, vo1, lo1, mo1, _⟩ := ownsRow_vals h.old
  have SEL := Lib.hid (selP vn1 vo1 ln1 lo1 mn1 mo1)
  have TIH := Lib.hid hI
  have ACC := Lib.hid (accP_le hI)
  clear h hI vn1 vo1 ln1 lo1 mn1 mo1
  generalize T.now.length = nn at *
  generalize T.old.length = no at *
  go_enter Try.func16, Try.ntmps16
  have hm := run_makeMap (P := Try.prog) 68 w
  go_upto_region 4 with fail
  go_cut [3, 24, 25, 26] (fun s3 s24 s25 s26 wx => s3 = .map (some w.heap.size) ∧ s24 = .slice (some ⟨w.heap.size + 1, 0, none⟩) 2 2 ∧ s25 = .int .i64 2 ∧ s26 = .int .i64 0 ∧ GaR w wx (.slice an nn cn) (.slice ao no co) [])
  case first =>
    have GS := Lib.hid (show GaR w ((w.alloc (.map #[] 0)).alloc (.cells #[.slice an nn cn, .slice ao no co] 59)) (.slice an nn cn) (.slice ao no co) [] from
      ⟨((Below.refl _ _).alloc (Nat.le_refl _) _).alloc (by simp) _, (World.ownsMap_made w Try.prog _ _).alloc _, by
        show ((w.heap.push _).push _)[w.heap.size + 1]? = _
        rw [Array.getElem?_push, Array.size_push, if_pos rfl]⟩)
    go_region
    all_goals go_wp2_with fail
    all_goals go_meet
    all_goals exact ⟨rfl, rfl, rfl, rfl, GS.out.drewN _⟩
  case rest =>
    obtain ⟨rfl, rfl, rfl, rfl, ga⟩ := hcut
    have GA0 := Lib.hid ga
    clear ga t1 t3 hm htb
    go_wp2_with fail
    go_loopg [5, 26] 2 (fun gk _ iv wr => ∃ k : Nat, k ≤ 2 ∧ iv = .int .i64 k ∧ gk + k = 2 ∧ GaR w wr (.slice an nn cn) (.slice ao no co) (accP T k))
    case atStart => exact ⟨0, by omega, rfl, rfl, GA0.out⟩
    case round =>
      obtain ⟨k, hk, rfl, hgk, hga⟩ := hrel
      have GK := Lib.hid hgk
      have GA := Lib.hid hga
      clear hgk hga GA0
      by_cases hlt : k < 2
      · obtain ⟨a, l, cap, hs, hv, hle, hmax, hacc, hhas⟩ := SEL.out k hlt
        unfold maxLen at hmax
        have hkk : (k : Int) < 2 := by omega
        have hc := blk_cell (i := k) GA.out.blk
        rw [hs] at hc
        have hblt := blk_lt GA.out.blk
        have HV := Lib.hid hv
        have HACC := Lib.hid hacc
        have HHAS := Lib.hid hhas
        have HLE := Lib.hid (show ∀ i, (accP T k ++ prsOf (l.take i)).length < maxLen from fun i => by
          have h1 := ACC.out (k + 1)
          rw [hacc, List.length_append] at h1
          have h2 := prsOf_take_le l i
          rw [List.length_append]
          unfold maxLen
          omega)
        obtain ⟨n, hn⟩ : ∃ n, l.length = n := ⟨_, rfl⟩
        have HN := Lib.hid hn
        rw [hn] at hc hle
        clear hs hv hacc hhas hn
        go_wp2_with fail
        go_loopg [7, 32] n (fun gk _ jv wr' => ∃ i : Nat, i ≤ n ∧ jv = .int .i64 i ∧ gk + i = n ∧ GaR w wr' (.slice an nn cn) (.slice ao no co) (accP T k ++ prsOf (l.take i)))
        case atStart => exact ⟨0, by omega, rfl, by omega, by simpa [prsOf] using GA.out⟩
        case round =>
          obtain ⟨i, hi, rfl, hgk, hga⟩ := hrel
          have GK2 := Lib.hid hgk
          have G2 := Lib.hid hga
          clear hgk hga hc hblt
          by_cases hlt2 : i < n
          · obtain ⟨p, hp⟩ : ∃ p, l[i]? = some p := ⟨_, List.getElem?_eq_getElem (by have := HN.out; omega)⟩
            obtain ⟨g, off, rfl, hg, cc⟩ := (HV.out.below G2.out.bel (Nat.le_refl _)).place i p hp
            have q0 := cc 0 (by omega); have q1 := cc 1 (by omega); have q2 := cc 2 (by omega); have q3 := cc 3 (by omega); have q4 := cc 4 (by omega); have q5 := cc 5 (by omega); have q6 := cc 6 (by omega)
            simp only [plC, entC, List.getElem?_cons_zero, List.getElem?_cons_succ, Nat.add_zero, ← Nat.add_assoc] at q0 q1 q2 q3 q4 q5 q6
            have hii : (i : Int) < n := by omega
            have PM := Lib.hid (List.mem_of_getElem? hp)
            have TS := Lib.hid (take_snoc l i p hp)
            have G3 := Lib.hid (G2.out.alloc (.cells #[.int .i64 (p.st : Int), .string p.key, .int .i64 p.en.seq, .int .i64 p.en.off, .int .i64 p.en.len, .int .i64 p.en.exp, .bool p.en.hit] 71))
            clear cc hp
            by_cases h1 : p.st = 1
            · have hb : ((p.st : Int) == 1) = true := by rw [h1]; rfl
              have HK := Lib.hid (keyK (k := p.key) (by have := TIH.out.ks _ _ (HHAS.out p PM.out h1); unfold maxLen; exact this))
              have H1 := Lib.hid h1
              have hml := HLE.out i
              have OM := Lib.hid G3.out.own
              clear h1
              go_wp2_with (first | (at_mapUpdate; (refine wpList_mapUpdate_own _ rfl _ _ _ 68 rfl 9 36 strK mapE entR w.heap.size (accP T k ++ prsOf (l.take i)).length _ rfl OM.out hml _ _ (klit p.key) rfl rfl HK.out (.held p.en) [] (entR_mk p.en) ?_); intro w2 hown2 hgrow2; refine Stop.out ?_) | fail)
              refine Stop.of ?_
              have G4 := Lib.hid (G3.out.put (x := ⟨p.key, p.en⟩) hown2 hgrow2)
              clear hown2 hgrow2 q0 q1 q2 q3 q4 q5 q6 hg
              go_wp2_with fail
              go_roundg (n - (i + 1))
              case measure => have := GK2.out; omega
              case rel => exact ⟨i + 1, by omega, by go_num, by omega, by rw [TS.out, prsOf_snoc, if_pos H1.out, ← List.append_assoc]; exact G4.out⟩
            · have hb : ((p.st : Int) == 1) = false := by
                rw [beq_eq_false_iff_ne]
                omega
              have H1 := Lib.hid h1
              clear h1
              go_wp2_with fail
              go_roundg (n - (i + 1))
              case measure => have := GK2.out; omega
              case rel => exact ⟨i + 1, by omega, by go_num, by omega, by rw [TS.out, prsOf_snoc, if_neg H1.out, List.append_nil]; exact G3.out⟩
          · obtain rfl : i = n := by omega
            have G3 := Lib.hid (show GaR w wr (.slice an nn cn) (.slice ao no co) (accP T (k + 1)) from by
              have := G2.out
              rw [List.take_of_length_le (by have := HN.out; omega)] at this
              rw [HACC.out]; exact this)
            go_wp2_with fail
            go_roundg (2 - (k + 1))
            case measure => have := GK.out; omega
            case rel => exact ⟨k + 1, by omega, by go_num, by omega, G3.out⟩
      · obtain rfl : k = 2 := by omega
        have G := Lib.hid (show GaR w wr (.slice an nn cn) (.slice ao no co) (prs T) from GA.out)
        have AP := Lib.hid (prs_apart TIH.out)
        have SZ := Lib.hid (show Maps.size (datum (prs T)) ≤ 1073741824 from by rw [((datum_all (prs T)).2.2 AP.out).1]; exact ACC.out 2)
        clear GA ACC SEL GK
        go_wp2_with fail
        with_reducible refine (keys31 _ _).mono ?_
        rintro e w1 ⟨rfl, rfl⟩
        have G1 := Lib.hid (G.out.alloc (.cells #[.map (some w.heap.size)] 68))
        have SO := Lib.hid (sorted30 w.heap.size (prs T).length wr.heap.size (datum (prs T)) entR (wr.alloc (.cells #[.map (some w.heap.size)] 68)) (by
          have hx : (wr.alloc (.cells #[.map (some w.heap.size)] 68)).heap[wr.heap.size]? = some (.cells #[.map (some w.heap.size)] 68 (0, 0)) := by
            show (wr.heap.push _)[wr.heap.size]? = _
            simp
          exact blk_cell hx) (by simp) G1.out.own SZ.out)
        generalize (wr.alloc (.cells #[.map (some w.heap.size)] 68)) = w1 at *
        go_wp2_with fail
        with_reducible refine SO.out.mono ?_
        rintro e w2 ⟨kv, ks, rfl, hp, hs, hrow, hb⟩
        obtain ⟨qs, q1, q2, q3⟩ := pairs_sorted AP.out (ks_perm hp (keys_perm G1.out.own AP.out)) hs
        have OWN := Lib.hid (own_below G1.out.own hb)
        have BEL := Lib.hid (bel_trans (show Below w1.heap.size w1 w1 from Below.refl _ _) hb)
        have BW := Lib.hid (G1.out.bel.trans (hb.mono G1.out.bel.size))
        have Q1 := Lib.hid q1
        have Q2 := Lib.hid q2
        have Q3 := Lib.hid q3
        obtain ⟨ka, kc, rfl, kvals, kle, kmax, _⟩ := ownsRow_vals hrow
        have KV := Lib.hid kvals
        obtain ⟨n, hn⟩ : ∃ n, ks.length = n := ⟨_, rfl⟩
        have HN := Lib.hid hn
        have HQ := Lib.hid (show qs.length = n from by rw [← hn, ← q3, List.length_map])
        have hn30 : n ≤ 1073741824 := by
          have h1 := q1.length_eq
          have h2 := prs_length TIH.out
          have h3 := TIH.out.len_le
          have h4 := HQ.out
          omega
        rw [hn] at kle ⊢
        obtain ⟨i0, hi, hz0, hz1, hz2⟩ := info_parts prinfo
        have I1 := Lib.hid hi; have I2 := Lib.hid hz0; have I3 := Lib.hid hz1; have I4 := Lib.hid hz2
        clear hi hz0 hz1 hz2 hp hs hrow hb q1 q2 q3 kvals kmax hn SO G G1 SZ
        go_wp2_with fail
        go_loopg [8, 10, 50] n (fun gk ov _ iv wr' => ∃ (i : Nat) (v' : Value), v' = ov ∧ i ≤ n ∧ iv = .int .i64 i ∧ gk + i = n ∧ OuR w2 wr' v' (qs.take i))
        case atStart => exact ⟨0, _, rfl, by omega, rfl, by omega, ⟨Below.refl _ _, own_nil _ _ _ _⟩⟩
        case round =>
          obtain ⟨i, v', rfl, hi, rfl, hgk, ho⟩ := hrel
          have GK := Lib.hid hgk
          have O := Lib.hid ho
          clear hgk ho
          by_cases hlt2 : i < n
          · obtain ⟨x, hx⟩ : ∃ x, qs[i]? = some x := ⟨_, List.getElem?_eq_getElem (by have := HQ.out; omega)⟩
            obtain ⟨g, off, rfl, hg, ck⟩ := (KV.out.below O.out.bel (Nat.le_refl _)).at i (v := .string x.key) (by rw [← Q3.out, List.map_map, List.getElem?_map, hx]; rfl)
            have XM := Lib.hid (Q1.out.mem_iff.1 (List.mem_of_getElem? hx))
            have lk := look_pr (own_below OWN.out O.out.bel) AP.out XM.out (by have := TIH.out.ks _ _ (mem_prs.1 XM.out); unfold maxLen; exact this)
            have TS := Lib.hid (take_snoc qs i x hx)
            have hii : (i : Int) < n := by omega
            have hl : (qs.take i).length = i := by rw [List.length_take]; have := HQ.out; omega
            have OW := O.out.own
            rw [hl] at OW
            have OWH := Lib.hid OW
            have HL := Lib.hid hl
            clear hx OW hl
            go_wp2_with (at_builtin; refine Stop.out ?_)
            refine Stop.of (wpList_app rfl _ _ 28 rfl w2.heap.size 38 i0 (.agg #[.string ByteArray.empty, .int .i64 0, .int .i64 0, .int .i64 0, .int .i64 0, .bool false]) 6 56 Try.underlying28 I1.out I2.out I3.out I4.out rfl (by decide) _ i (pairsC (qs.take i)) rfl (OWH.out.alloc _) _ 1 [.string x.key, .int .i64 x.en.seq, .int .i64 x.en.off, .int .i64 x.en.len, .int .i64 x.en.exp, .bool x.en.hit] rfl (src_lit #[.string x.key, .int .i64 x.en.seq, .int .i64 x.en.off, .int .i64 x.en.len, .int .i64 x.en.exp, .bool x.en.hit] (0, 0) (heap_alloc_new wr _) rfl) (one6 x.key x.en) (by unfold maxLen; omega) (by omega) (by have := O.out.bel.size; simp; omega) ?_)
            intro v2 w3 hown3 hg3
            have O3 := Lib.hid (O.out.app (x := x) (by rw [HL.out]; exact hown3) hg3)
            clear hown3 hg3 ck lk hg
            go_wp2_with fail
            go_roundg (n - (i + 1))
            case measure => have := GK.out; omega
            case rel => exact ⟨i + 1, _, rfl, by omega, by go_num, by omega, by rw [TS.out]; exact O3.out⟩
          · obtain rfl : i = n := by omega
            have hl : qs.take i = qs := List.take_of_length_le (by have := HQ.out; omega)
            have O2 := Lib.hid (show OuR w2 wr v' qs from by have := O.out; rw [hl] at this; exact this)
            clear hl
            go_wp2_with fail
            go_ret
            exact ⟨v', qs, rfl, Q2.out, Q1.out, own_base O2.out.own BW.out.size, BW.out.trans (O2.out.bel.mono BW.out.size)⟩
end Go.Proofs.Ytbfkhghegkiifaa
