/-
  Laws and contracts for the statement TopExpired.
-/
import Derived.Test.YtbikkioipamlmaaGreatDoorX18
open Go.Lib (hid)
open Go.Proofs.Tryz (prog)
set_option linter.unusedVariables false
set_option linter.unusedSimpArgs false
set_option maxRecDepth 100000
set_option maxHeartbeats 20000000
namespace Go.Proofs.YtbikkioipamlmaaGreatDoor.T16
open Go.RowKit
theorem expired17 (e now : Int) (w : World) : Calls prog 134 #[.int .i64 e, .int .i64 now] w fun r w' => r = .returned (.bool (!liveI now e)) /\ w = w' := by
  unfold liveI
  go_enter Tryz.func134, Tryz.ntmps134
  by_cases h0 : e = 0
  · subst h0
    go_wp2_with fail
    go_ret
    exact ⟨by simp, rfl⟩
  · have h0b : (e == 0) = false := by simp [h0]
    go_wp2_with fail
    go_ret
    refine ⟨?_, rfl⟩
    simp [h0]
    by_cases h1 : e <= now
    · have h2 : ¬ now < e := by omega
      simp [h1, h2, bne, h0b]
    · have h2 : now < e := by omega
      simp [h1, h2, bne, h0b]
theorem OuR.alloc {w wr : World} {v : Value} {qs : List Pr} (h : OuR w wr v qs) (o : Obj) : OuR w (wr.alloc o) v qs := ⟨h.bel.alloc h.bel.size o, h.own.alloc _⟩
theorem recs_take {bs : List Bt} {i : Nat} {b : Bt} (h : bs[i]? = some b) : recs (bs.take (i + 1)) = recs (bs.take i) ++ b.rcs := by
  rw [take_snoc bs i b h, recs_append, recs_one]
theorem rcs_take {b : Bt} {j : Nat} {f : Fd} (h : b.fs[j]? = some f) : (b.fs.take (j + 1)).map (Fd.rc b.seq) = (b.fs.take j).map (Fd.rc b.seq) ++ [f.rc b.seq] := by
  rw [take_snoc b.fs j f h, List.map_append]; rfl
theorem heap_two (w : World) (o o' : Obj) : ((w.alloc o).alloc o').heap[w.heap.size + 1]? = some o' := by
  show ((w.heap.push _).push _)[w.heap.size + 1]? = _
  rw [Array.getElem?_push, Array.size_push, if_pos rfl]
def MapE (w : World) (bs : List Bt) (now : Int) (e : Ending) (w' : World) : Prop :=
  ∃ v q, e = .returned v /\ MapR (recs bs) now q /\ q.length <= 1000 /\ w'.ownsRow w.heap.size 112 6 v q.length (pairsC q) /\ Below w.heap.size w w'
theorem rmap10 (a : Option Addr) (len cap : Nat) (bs : List Bt) (now : Int) (w : World) (hlen : bs.length = len) (h11 : len <= 11) (hb : BtsIn w a bs) :
    Calls prog 69 #[.slice a len cap, .int .i64 now] w (MapE w bs now) := by
  have HB := hid hb
  have HL := hid hlen
  clear hb hlen
  go_enter Tryz.func69, Tryz.ntmps69
  go_wp2_with fail
  with_reducible refine (new_ob _).mono ?_
  rintro e w1 ⟨tb0, T1, rfl, o1, n1, m1⟩
  have O1 := hid o1
  have L1 := hid (likeR_nil m1)
  clear o1 m1
  go_wp2_with fail
  go_loopg [5, 7, 9, 10, 17] len (fun gk tv _ _ _ iv wr => ∃ (i tb : Nat) (T : Tab), i <= len /\ tv = .pointer (some ⟨tb, 0, none⟩) /\ iv = .int .i64 i /\ gk + i = len /\ Tob w wr tb T /\ Hid (LikeR T (recs (bs.take i))) /\ T.tot <= 8 * i)
  case atStart => exact ⟨0, tb0, T1, by omega, rfl, rfl, by omega, O1.out, L1, by omega⟩
  case round =>
    obtain ⟨i, tb, T, hi, rfl, rfl, hgk, ot, LK, htot⟩ := hrel
    have O := hid ot
    have GK := hid hgk
    clear ot hgk O1 L1
    by_cases hlt : i < len
    · obtain ⟨x, hx⟩ : ∃ x, bs[i]? = some x := ⟨_, List.getElem?_eq_getElem (by have := HL.out; omega)⟩
      obtain ⟨b, off, rfl, hb, c0, c1, xin⟩ := (HB.out.below O.out.bel).at i x hx
      have hii : (i : Int) < len := by omega
      have HX := hid hx
      have XIN := hid (HB.out.bts x (List.mem_of_getElem? hx))
      obtain ⟨n, hn⟩ : ∃ n, x.fs.length = n := ⟨_, rfl⟩
      have hn8 : n <= 8 := by rw [<- hn]; exact xin.le
      obtain ⟨ax, hax⟩ : ∃ ax, x.a = ax := ⟨_, rfl⟩
      rw [hn, hax] at c1
      have HAX := hid hax
      have HN := hid hn
      have TX := hid (tbx_mk O.out (.cells #[.int .i64 x.seq, .slice ax n x.c] 156))
      clear hx xin hn hax
      go_wp2_with fail
      obtain ⟨bx, hbx⟩ : ∃ bx, wr.heap.size = bx := ⟨_, rfl⟩
      rw [hbx] at TX ⊢
      clear hbx
      go_loopg [5, 9, 10, 24] n (fun gk tv _ _ jv wr' => ∃ (j tb' : Nat) (T' : Tab), j <= n /\ tv = .pointer (some ⟨tb', 0, none⟩) /\ jv = .int .i64 j /\ gk + j = n /\ Tbx w wr' tb' T' bx (.cells #[.int .i64 x.seq, .slice ax n x.c] 156) /\ Hid (LikeR T' (recs (bs.take i) ++ (x.fs.take j).map (Fd.rc x.seq))) /\ T'.tot <= 8 * i + j)
      case atStart => exact ⟨0, tb, T, by omega, rfl, rfl, by omega, TX.out, by simpa using LK, by omega⟩
      case round =>
        obtain ⟨j, tb', T', hj, rfl, rfl, hgk2, tx', LK', htot'⟩ := hrel
        have TX' := hid tx'
        have GK2 := hid hgk2
        have XJ := XIN.out.below tx'.bel
        have g0 := qB (i := 0) tx'.blk
        have hgl := lB tx'.blk
        have hws := tx'.bel.size
        simp only [List.getElem?_toArray, List.getElem?_cons_zero] at g0
        clear tx' hgk2 TX
        by_cases hlt2 : j < n
        · obtain ⟨f, hf⟩ : ∃ f, x.fs[j]? = some f := ⟨_, List.getElem?_eq_getElem (by have := HN.out; omega)⟩
          obtain ⟨b2, off2, hab, hb2, d0, d1, d2, d3, d4, d5, kin⟩ := XJ.at j f hf
          rw [HAX.out] at hab
          subst hab
          have hjj : (j : Int) < n := by omega
          have HF := hid hf
          obtain ⟨ks, hks⟩ : ∃ ks, f.key.size = ks := ⟨_, rfl⟩
          rw [hks] at d3
          have hks10 : ks <= 255 := by rw [<- hks]; exact kin.le
          have CV : (convert 33 9 (.slice f.ka ks f.kc)).run prog (wr.alloc (.cells #[.int .i64 f.off, .int .i64 f.len, .int .i64 f.kind, .slice f.ka ks f.kc, .slice f.va f.vn f.vc, .int .i64 f.exp] 163)) = .ok (.string f.key) (wr.alloc (.cells #[.int .i64 f.off, .int .i64 f.len, .int .i64 f.kind, .slice f.ka ks f.kc, .slice f.va f.vn f.vc, .int .i64 f.exp] 163)) := by
            rw [<- hks]
            exact vals_conv (kin.vals.below ((Below.refl _ _).alloc (Nat.le_refl _) _) (Nat.le_refl _))
          have TX2 := hid (TX'.out.below ((Below.refl _ _).alloc (Nat.le_refl _) (.cells #[.int .i64 f.off, .int .i64 f.len, .int .i64 f.kind, .slice f.ka ks f.kc, .slice f.va f.vn f.vc, .int .i64 f.exp] 163)))
          have HKS := hid hks
          clear hf kin hks XJ
          by_cases hk1 : f.kind = 1
          · have hkb : (f.kind == 1) = true := by rw [hk1]; rfl
            have SET := hid (tbx_set tb' T' _ _ f.key ⟨x.seq, f.off, f.len, f.exp, false⟩ w _ TX2.out (by have := HKS.out; omega) (by omega))
            unfold entV at SET
            have HK1 := hid hk1
            clear hk1
            go_wp2_with fail
            with_reducible refine SET.out.mono ?_
            rintro e w3 ⟨rfl, T3, t3, s3⟩
            have TX3 := hid t3
            have LK3 := hid (show LikeR T3 (recs (bs.take i) ++ (x.fs.take (j + 1)).map (Fd.rc x.seq)) from by
              rw [rcs_take HF.out, <- List.append_assoc]
              exact likeR_step1 (r := f.rc x.seq) LK'.out HK1.out s3)
            have ht3 : T3.tot <= 8 * i + (j + 1) := by rcases s3.tot with ⟨_, h⟩ | ⟨_, h⟩ <;> omega
            clear t3 s3 SET
            go_wp2_with fail
            go_roundg (n - (j + 1))
            case measure => have := GK2.out; omega
            case rel => exact ⟨j + 1, tb', T3, by omega, rfl, by go_num, by omega, TX3.out, LK3, by omega⟩
          · have hkb : (f.kind == 1) = false := by simp [hk1]
            by_cases hk2 : f.kind = 2
            · have hkb2 : (f.kind == 2) = true := by rw [hk2]; rfl
              have DEL := hid (tbx_del tb' T' _ _ f.key w _ TX2.out (by have := HKS.out; omega))
              have HK2 := hid hk2
              clear hk1 hk2
              go_wp2_with fail
              with_reducible refine DEL.out.mono ?_
              rintro e w3 ⟨bb, T3, rfl, t3, s3⟩
              have TX3 := hid t3
              have LK3 := hid (show LikeR T3 (recs (bs.take i) ++ (x.fs.take (j + 1)).map (Fd.rc x.seq)) from by
                rw [rcs_take HF.out, <- List.append_assoc]
                exact likeR_step2 (r := f.rc x.seq) LK'.out HK2.out s3)
              have ht3 : T3.tot <= 8 * i + (j + 1) := by have := s3.tot; split at this <;> omega
              clear t3 s3 DEL
              go_wp2_with fail
              go_roundg (n - (j + 1))
              case measure => have := GK2.out; omega
              case rel => exact ⟨j + 1, tb', T3, by omega, rfl, by go_num, by omega, TX3.out, LK3, by omega⟩
            · have hkb2 : (f.kind == 2) = false := by simp [hk2]
              by_cases hk3 : f.kind = 3
              · have hkb3 : (f.kind == 3) = true := by rw [hk3]; rfl
                have NEW := hid (tbx_new tb' T' _ _ w _ TX2.out)
                have HK3 := hid hk3
                clear hk1 hk2 hk3
                go_wp2_with fail
                with_reducible refine NEW.out.mono ?_
                rintro e w3 ⟨tb3, T3, rfl, t3, n3, m3⟩
                have TX3 := hid t3
                have LK3 := hid (show LikeR T3 (recs (bs.take i) ++ (x.fs.take (j + 1)).map (Fd.rc x.seq)) from by
                  rw [rcs_take HF.out, <- List.append_assoc]
                  exact likeR_step3 (r := f.rc x.seq) HK3.out m3)
                clear t3 m3 NEW
                go_wp2_with fail
                go_roundg (n - (j + 1))
                case measure => have := GK2.out; omega
                case rel => exact ⟨j + 1, tb3, T3, by omega, rfl, by go_num, by omega, TX3.out, LK3, by omega⟩
              · have hkb3 : (f.kind == 3) = false := by simp [hk3]
                have LK3 := hid (show LikeR T' (recs (bs.take i) ++ (x.fs.take (j + 1)).map (Fd.rc x.seq)) from by
                  rw [rcs_take HF.out, <- List.append_assoc]
                  exact likeR_step0 (r := f.rc x.seq) LK'.out hk1 hk2 hk3)
                clear hk1 hk2 hk3
                go_wp2_with fail
                go_roundg (n - (j + 1))
                case measure => have := GK2.out; omega
                case rel => exact ⟨j + 1, tb', T', by omega, rfl, by go_num, by omega, TX2.out, LK3, by omega⟩
        · obtain rfl : n = j := by omega
          have LK3 := hid (show LikeR T' (recs (bs.take (i + 1))) from by
            have := LK'.out
            rw [List.take_of_length_le (l := x.fs) (by have := HN.out; omega)] at this
            rw [recs_take HX.out]; exact this)
          go_wp2_with fail
          go_roundg (len - (i + 1))
          case measure => have := GK.out; omega
          case rel => exact ⟨i + 1, tb', T', by omega, rfl, by go_num, by omega, TX'.out.tob, LK3, by omega⟩
    · obtain rfl : len = i := by omega
      have LKF := hid (show LikeR T (recs bs) from by
        have := LK.out
        rw [List.take_of_length_le (by have := HL.out; omega)] at this
        exact this)
      clear LK GK
      go_wp2_with fail
      with_reducible refine (pairs_ob tb T w wr O.out).mono ?_
      rintro e w2 ⟨pv, qs, rfl, hp⟩
      obtain ⟨pa, pc, n, rfl, hqn, htb, hasc, hperm⟩ := hp
      have HV := hid htb.vals
      have BW := hid htb.bel
      have HM := hid (mapR_of (now := now) LKF.out hasc hperm)
      have HQ := hid hqn
      have hn88 : n <= 88 := by
        have h1 := hperm.length_eq
        have h2 := prs_length htb.ti
        unfold Tab.tot at htot
        omega
      obtain ⟨i0, hz, hz0, hz1, hz2⟩ := info_parts prinfo
      have I1 := hid hz; have I2 := hid hz0; have I3 := hid hz1; have I4 := hid hz2
      clear hqn htb hasc hperm hz hz0 hz1 hz2 LKF
      go_wp2_with fail
      go_loopg [11, 13, 63] n (fun gk ov _ kv wr => ∃ (k : Nat) (v : Value), k <= n /\ v = ov /\ kv = .int .i64 k /\ gk + k = n /\ OuR w2 wr v ((qs.take k).filter (fun x => liveE now x.en)))
      case atStart => exact ⟨0, _, by omega, rfl, rfl, by omega, ⟨Below.refl _ _, own_nil _ _ _ _⟩⟩
      case round =>
        obtain ⟨k, v, hk, rfl, rfl, hgk, ou⟩ := hrel
        have GK := hid hgk
        have OU := hid ou
        clear hgk ou O
        by_cases hlt2 : k < n
        · obtain ⟨x, hx⟩ : ∃ x, qs[k]? = some x := ⟨_, List.getElem?_eq_getElem (by have := HQ.out; omega)⟩
          obtain ⟨g, off, hab, hg, q0, q1, q2, q3, q4, q5⟩ := Vals.pair (HV.out.below OU.out.bel (Nat.le_refl _)) k x hx
          subst hab
          have hkk : (k : Int) < n := by omega
          have TS := hid (take_snoc qs k x hx)
          obtain ⟨m, hm⟩ : ∃ m, ((qs.take k).filter (fun x => liveE now x.en)).length = m := ⟨_, rfl⟩
          have hmk : m <= k := by
            rw [<- hm]
            refine Nat.le_trans (List.length_filter_le _ _) ?_
            rw [List.length_take]; omega
          have HM' := hid hm
          have OU2 := hid (OU.out.alloc (.cells #[.string x.key, .int .i64 x.en.seq, .int .i64 x.en.off, .int .i64 x.en.len, .int .i64 x.en.exp, .bool x.en.hit] 112))
          clear hx hm
          go_wp2_with fail
          with_reducible refine (expired17 _ _ _).mono ?_
          rintro e w3 ⟨rfl, rfl⟩
          by_cases hlv : liveI now x.en.exp = true
          · rw [hlv]
            have OWH := hid (show (wr.alloc (.cells #[.string x.key, .int .i64 x.en.seq, .int .i64 x.en.off, .int .i64 x.en.len, .int .i64 x.en.exp, .bool x.en.hit] 112)).ownsRow w2.heap.size 112 6 v m (pairsC ((qs.take k).filter (fun x => liveE now x.en))) from by
              have := OU2.out.own
              rw [HM'.out] at this
              exact this)
            go_wp2_with (at_builtin; refine Stop.out ?_)
            refine Stop.of (wpList_app rfl _ _ 60 rfl w2.heap.size 112 i0 (.agg #[.string ByteArray.empty, .int .i64 0, .int .i64 0, .int .i64 0, .int .i64 0, .bool false]) 6 56 Tryz.underlying60 I1.out I2.out I3.out I4.out rfl (by decide) v m (pairsC ((qs.take k).filter (fun x => liveE now x.en))) rfl (OWH.out.alloc _) _ 1 [.string x.key, .int .i64 x.en.seq, .int .i64 x.en.off, .int .i64 x.en.len, .int .i64 x.en.exp, .bool x.en.hit] rfl (src_lit #[.string x.key, .int .i64 x.en.seq, .int .i64 x.en.off, .int .i64 x.en.len, .int .i64 x.en.exp, .bool x.en.hit] (0, 0) (heap_two _ _ _) rfl) (one6 x.key x.en) (by unfold maxLen; omega) (by omega) (by have := OU2.out.bel.size; simp at this ⊢; omega) ?_)
            intro v2 w3 hown3 hg3
            have O3 := hid (OU2.out.app (x := x) (by rw [HM'.out]; exact hown3) hg3)
            have FL := hid (show (qs.take (k + 1)).filter (fun x => liveE now x.en) = (qs.take k).filter (fun x => liveE now x.en) ++ [x] from by
              rw [TS.out, List.filter_append, List.filter_cons, if_pos (by exact hlv)]; rfl)
            clear hown3 hg3 q0 q1 q2 q3 q4 q5 hg
            go_wp2_with fail
            go_roundg (n - (k + 1))
            case measure => have := GK.out; omega
            case rel => exact ⟨k + 1, _, by omega, rfl, by go_num, by omega, by rw [FL.out]; exact O3.out⟩
          · have hlf : liveI now x.en.exp = false := by cases h : liveI now x.en.exp <;> simp_all
            rw [hlf]
            have FL := hid (show (qs.take (k + 1)).filter (fun x => liveE now x.en) = (qs.take k).filter (fun x => liveE now x.en) from by
              rw [TS.out, List.filter_append, List.filter_cons, if_neg (by rw [show liveE now x.en = liveI now x.en.exp from rfl, hlf]; decide)]; simp)
            go_wp2_with fail
            go_roundg (n - (k + 1))
            case measure => have := GK.out; omega
            case rel => exact ⟨k + 1, _, by omega, rfl, by go_num, by omega, by rw [FL.out]; exact OU2.out⟩
        · obtain rfl : n = k := by omega
          have hl : qs.take n = qs := List.take_of_length_le (by have := HQ.out; omega)
          have O2 := hid (show OuR w2 wr v (qs.filter (fun x => liveE now x.en)) from by have := OU.out; rw [hl] at this; exact this)
          clear hl
          go_wp2_with fail
          go_ret
          refine ⟨v, _, rfl, HM.out, ?_, own_base O2.out.own BW.out.size, tB BW.out O2.out.bel⟩
          have := List.length_filter_le (fun (x : Pr) => liveE now x.en) qs
          have := HQ.out
          omega
theorem mapR_nil {now : Int} {q : List Pr} (h : MapR [] now q) : q = [] := by
  cases q with
  | nil => rfl
  | cons x q =>
    exfalso
    have h1 : (none : Option Ent) = some x.en := ((h.mem x).1 (by simp)).1
    cases h1
theorem mapR_exp {now : Int} {q : List Pr} {r : Rc} (h : MapR [r] now q) (hk : r.kind = 1) (he : r.exp ≠ 0) (hn : r.exp <= now) : q = [] := by
  cases q with
  | nil => rfl
  | cons x q =>
    have h1 := (h.mem x).1 (by simp)
    exfalso
    obtain ⟨h2, h3⟩ := h1
    have h4 : stepF x.key none r = some x.en := h2
    unfold stepF at h4
    rw [if_pos hk] at h4
    split at h4
    · have h5 : r.ent = x.en := by injection h4
      rw [<- h5] at h3
      have h6 : (decide (r.exp = 0) || decide (now < r.exp)) = true := h3
      rw [Bool.or_eq_true, decide_eq_true_eq, decide_eq_true_eq] at h6
      omega
    · cases h4
theorem map0 (now : Int) (w : World) : Calls prog 69 #[.slice none 0 0, .int .i64 now] w fun e w' => ∃ v, e = .returned v /\ w'.ownsRow w.heap.size 112 6 v 0 [] /\ Below w.heap.size w w' := by
  refine (rmap10 none 0 0 [] now w rfl (by omega) ⟨fun i hi => by simp at hi, fun b hb => by cases hb⟩).mono ?_
  rintro e w' ⟨v, q, rfl, hm, _, ho, hb⟩
  have hq : q = [] := mapR_nil hm
  subst hq
  exact ⟨v, rfl, ho, hb⟩
theorem map1 (now : Int) (a : Option Addr) (cap : Nat) (b : Bt) (f : Fd) (w : World) (hb : BtsIn w a [b]) (hf : b.fs = [f]) (hk : f.kind = 1) (he : f.exp ≠ 0) (hn : f.exp <= now) : Calls prog 69 #[.slice a 1 cap, .int .i64 now] w fun e w' => ∃ v, e = .returned v /\ w'.ownsRow w.heap.size 112 6 v 0 [] /\ Below w.heap.size w w' := by
  refine (rmap10 a 1 cap [b] now w rfl (by omega) hb).mono ?_
  rintro e w' ⟨v, q, rfl, hm, _, ho, hbw⟩
  have hr : recs [b] = [f.rc b.seq] := by rw [recs_one]; unfold Bt.rcs; rw [hf]; rfl
  rw [hr] at hm
  have hq : q = [] := mapR_exp hm hk he hn
  subst hq
  exact ⟨v, rfl, ho, hbw⟩
end Go.Proofs.YtbikkioipamlmaaGreatDoor.T16
