/-
  Laws and contracts for the statement TopExpired.
-/
import Derived.Test.YtbikkioipamlmaaGreatDoorTie
import Derived.LaidMore
import Derived.Stop.Joined
import Derived.Test.YtbikkioipamlmaaGreatDoorX39
open Go.Lib (hid)
open Go.Proofs.Tryz (prog)
set_option linter.unusedVariables false
set_option linter.unusedSimpArgs false
set_option maxRecDepth 100000
set_option maxHeartbeats 20000000
namespace Go.Proofs.YtbikkioipamlmaaGreatDoor
open Go.Maps Go.RowKit L21 T16
theorem col2 {w : World} {T : Nat -> Int} {sb tb cb qb dp ib mb cap n xb kb B : Nat} {D : DataW Nat} {S : List (List Int)} {wn : Nat} {l : Lay} {now : Int} {P Q R : Nat -> Prop} {lv : Value}
    (sto : StB w sb tb cb qb dp 0 l lv none 2 now) (ix : Ix w tb cb qb none 0 P Q R) (dv : Dev w dp ib mb cap n D S wn) (ct : CrcT T w) (ca : CaB w xb sb kb 0 0 0 0) (sk : S19.Sk .u8 w kb (fun _ => 0) 0)
    (hi : ∀ j, ixF P Q R j -> sb < j /\ j < kb) (h1 : sb < kb) (h2 : kb < xb) (hB : B <= sb) (hd : ∀ j, devF dp ib mb j -> 0 < j /\ j < B) :
    ∃ col, Ss2 w T sb tb cb qb dp ib mb cap n D S wn l now 0 P Q R lv col /\ CaS w xb sb kb 0 0 0 0 (fun _ => 0) 0 col /\ ∀ j, j < B -> ¬ devF dp ib mb j -> col j = 0 := by
  have hsz := lB sto
  have hxz := lB ca
  have hB0 : 0 < B := by have := hd dp (.inl rfl); omega
  refine ⟨colF (ixF P Q R) (devF dp ib mb) none sb, ⟨sto, ix, dv, ct, ?_, ?_, ?_, ?_, ?_⟩, ⟨ca, sk, fun j => by omega, by omega, ?_, ?_, by omega, by omega, by omega, by omega, by omega, by omega, by omega⟩, ?_⟩
  · intro j hj
    exact colF_0 (fun h => by have := hi j h; omega) (fun h => by have := hd j h; omega) (fun h => by cases h) (by omega)
  · exact colF_0 (fun h => by have := hi 0 h; omega) (fun h => by have := hd 0 h; omega) (fun h => by cases h) (by omega)
  · intro j hj; exact colF_1 hj
  · intro j hj; exact colF_2 (fun h => by have := hi j h; have := hd j hj; omega) hj
  · exact colF_5 (fun h => by have := hi sb h; omega) (fun h => by have := hd sb h; omega) (fun h => by cases h) rfl
  · exact colF_0 (fun h => by have := hi xb h; omega) (fun h => by have := hd xb h; omega) (fun h => by cases h) (by omega)
  · exact colF_0 (fun h => by have := hi kb h; omega) (fun h => by have := hd kb h; omega) (fun h => by cases h) (by omega)
  · intro j hj hn
    exact colF_0 (fun h => by have := hi j h; omega) hn (fun h => by cases h) (by omega)
structure ReoS (w w' : World) (T : Nat -> Int) (dp xb : Nat) (S : List (List Int)) (l : Lay) (now : Int) (ib mb cap sb kb tb cb qb : Nat) (P Q R : Nat -> Prop) (lv : Value) (col : Nat -> Nat) : Prop where
  s2 : Ss2 w' T sb tb cb qb dp ib mb cap 0 (.map []) S 0 l now 0 P Q R lv col
  ca : CaS w' xb sb kb 0 0 0 0 (fun _ => 0) 0 col
  be : Below w.heap.size w w'
  old : ∀ j, j < w.heap.size -> col j = 0 /\ j ≠ xb /\ j ≠ kb
theorem reopen8 (T : Nat -> Int) (dp ib mb cap n : Nat) (S : List (List Int)) (wr : Nat) (ka : Option Addr) (kn kc : Nat) (l : Lay) (now : Int) (r : Rec) (ln vn z : Nat) (w : World) (h : Dev w dp ib mb cap n (.map []) S wr) (hk : kn <= kc) (hk2 : kn <= 9223372036854775807)
    (hT : CrcT T w) (hf : formB l = true) (hfit : fitsB l (S.length : Int) = true) (h0 : S[0]? = some (List.replicate 64 0)) (h1 : S[1]? = some (supE (crcF T) 1 (sup0 l)))
    (hS : 74 + l.rg.toNat * l.rs.toNat <= S.length) (hc : candL (crcF T) S l l.rg.toNat = [reg1 l]) (hck : recChk l.ver r = 0) (hkd : r.kind = 1) (hkn : r.key.length = ln) (hvn : r.val.length = vn) (hz : 16 + ln + vn + z = 59) (hz0 : 0 < z) (hst : strF (crcF T) S 1 (74 + 1) (l.rs.toNat - 1) = recE T l.ver 1 0 r ++ List.replicate z 0) (he0 : r.exp ≠ 0) (hen : r.exp <= now) (n0 : 0 <= now) (n1 : now <= 549755813888) :
    Calls prog 26 #[.pointer (some ⟨dp, 0, none⟩), .slice ka kn kc, .slice none 0 0, .int .i64 now] w fun e w' => ∃ dp2 xb ib2 mb2 cap2 sb kb tb cb qb P Q R lv col, e = .returned (.tuple #[.pointer (some ⟨dp2, 0, none⟩), .pointer (some ⟨xb, 0, none⟩), .bool true]) /\ ReoS w w' T dp2 xb S l now ib2 mb2 cap2 sb kb tb cb qb P Q R lv col := by
  have RC := reopenC dp ib mb cap n S wr ka kn kc now w h hk hk2 (fun w1 dp2 xb w' => ∃ ib2 mb2 cap2 sb kb tb cb qb P Q R lv col, ReoS w w' T dp2 xb S l now ib2 mb2 cap2 sb kb tb cb qb P Q R lv col) (fun w1 dp2 ib2 mb2 cap2 hb1 hd1 hg1 => by
    have hT1 := hT.below hb1 hT.lt
    refine (copen1 T dp2 ib2 mb2 cap2 0 (.map []) S 0 l now r ln vn z w1 hd1 hT1 hf hfit h0 h1 hS hc hck hkd hkn hvn hz hz0 hst he0 hen n0 n1).mono ?_
    rintro e w' ⟨xb, sb, kb, tb, cb, qb, P, Q, R, lv, rfl, ca, sto, ix, sk, lr, hB, hi, ho, h1, h2, hb⟩
    have hw := hT.lt
    obtain ⟨col, c0, c1, c2⟩ := col2 sto ix (hd1.below hb) (hT1.below hb hT1.lt) ca sk hi h1 h2 hB (fun j hj => ⟨by have := hg1 j hj; omega, hd1.lt j hj⟩)
    have hs := hb1.size
    exact ⟨xb, rfl, ib2, mb2, cap2, sb, kb, tb, cb, qb, P, Q, R, lv, col, c0, c1, tB hb1 hb, fun j hj => ⟨c2 j (by omega) (fun h => by have := hg1 j h; omega), by omega, by omega⟩⟩)
  refine RC.mono ?_
  rintro e w' ⟨w1, dp2, xb, rfl, ib2, mb2, cap2, sb, kb, tb, cb, qb, P, Q, R, lv, col, hh⟩
  exact ⟨dp2, xb, ib2, mb2, cap2, sb, kb, tb, cb, qb, P, Q, R, lv, col, rfl, hh⟩
end Go.Proofs.YtbikkioipamlmaaGreatDoor
namespace Go.Proofs.YtbikkioipamlmaaGreatDoor
open Go.ChangeShapes Go.RowKit Go.WideShapes
theorem Reads.bytes {w : World} {cs : List Value} (h : Reads prog w 33 cs) : ∃ a n cap bs, cs = [.slice a n cap] /\ Rd8 w a n cap bs := by
  obtain ⟨a, len, cap, f, rfl, h1, h2, h3, h4, h5⟩ := h.rows Tryz.underlying33 (show prog.cellsOf 5 = 1 from by kernel_rfl) (by omega)
  have key : ∀ i, ∃ n : Int, i < len -> f i = [.int .u8 n] /\ (Lit.int .u8 n).wf = true := by
    intro i
    by_cases hi : i < len
    · obtain ⟨n, hn, hw⟩ := (h5 i hi).2.int Tryz.underlying5
      exact ⟨n, fun _ => ⟨hn, hw⟩⟩
    · exact ⟨0, fun h => (hi h).elim⟩
  obtain ⟨g, hg⟩ := Classical.axiomOfChoice key
  have hz : ∀ i, i < len -> ((List.range len).map g)[i]?.getD 0 = g i := by
    intro i hi
    rw [List.getElem?_map, List.getElem?_range hi]; rfl
  refine ⟨a, len, cap, (List.range len).map g, rfl, by simp, fun i hi => ?_, ⟨h1, h2⟩, h3, fun z hz' => ?_⟩
  · obtain ⟨b, off, ha, hlt, hc⟩ := h4 i hi
    refine ⟨b, off, ha, hlt, ?_⟩
    have := hc 0 (by omega)
    rw [(hg i hi).1] at this
    rw [hz i hi]
    simpa using this
  · obtain ⟨i, hi, rfl⟩ := List.mem_map.1 hz'
    have hw := (hg i (List.mem_range.1 hi)).2
    simp only [Lit.wf, Bool.and_eq_true, IntKind.min, IntKind.max, IntKind.signed, IntKind.bits] at hw
    constructor
    · have := hw.1; simp at this; omega
    · have := hw.2; simp at this; omega
theorem arg_timed {w : World} {base : Nat} {v : Value} (o : Value.okWide prog w .any base 75 v) (r : Reads prog w 75 v.cells.toList) :
    ∃ (x y z : Int) (oa ka va pa : Option Addr) (on oc kn kc vn vc pn pc : Nat) (kbs vbs : List Int) (tt : Int), v = .agg #[.int .i64 x, .int .i64 y, .int .i64 z, .slice oa on oc, .slice ka kn kc, .slice va vn vc, .int .i64 tt, .slice pa pn pc] /\ Rd8 w ka kn kc kbs /\ Rd8 w va vn vc vbs /\ pn <= pc /\ pc <= 9223372036854775807 := by
  obtain ⟨cs, rfl, _⟩ := okWide_struct Tryz.underlying75 o
  obtain ⟨hl, hf⟩ := r.struct Tryz.underlying75
  rw [show prog.cellsOf 75 = 8 from by kernel_rfl] at hl
  obtain ⟨l, rfl⟩ : ∃ l : List Value, cs = l.toArray := ⟨cs.toList, by simp⟩
  simp only [Value.cells] at hl hf
  match l, hl with
  | [a0, a1, a2, a3, a4, a5, a6, a7], _ =>
    simp only [List.mem_cons, List.not_mem_nil, or_false, forall_eq_or_imp, forall_eq, show prog.cellsOf 3 = 1 from by kernel_rfl, show prog.cellsOf 33 = 1 from by kernel_rfl, show prog.cellsOf 34 = 1 from by kernel_rfl, show prog.cellsOf 24 = 4 from by kernel_rfl] at hf
    obtain ⟨f0, f1, f2, f3, f4⟩ := hf
    obtain ⟨-, hg⟩ := f0.struct Tryz.underlying24
    simp only [List.mem_cons, List.not_mem_nil, or_false, forall_eq_or_imp, forall_eq, show prog.cellsOf 3 = 1 from by kernel_rfl, show prog.cellsOf 22 = 1 from by kernel_rfl] at hg
    obtain ⟨g0, g1, g2, g3⟩ := hg
    obtain ⟨n0, e0, -⟩ := g0.int Tryz.underlying3
    obtain ⟨n1, e1, -⟩ := g1.int Tryz.underlying3
    obtain ⟨n2, e2, -⟩ := g2.int Tryz.underlying3
    obtain ⟨ka, kn, kc, kbs, e4, hk⟩ := f1.bytes
    obtain ⟨va, vn, vc, vbs, e5, hv⟩ := f2.bytes
    obtain ⟨n6, e6, -⟩ := f3.int Tryz.underlying3
    obtain ⟨oa, on, oc, h3⟩ : ∃ oa on oc, a3 = .slice oa on oc := by
      rcases g3.slice Tryz.underlying22 with e | ⟨_, _, _, e, _⟩ <;> (simp at e; exact ⟨_, _, _, e⟩)
    simp at e0 e1 e2 e4 e5 e6
    subst e0 e1 e2 h3 e4 e5 e6
    rcases f4.slice Tryz.underlying34 with e | ⟨pa, pn, pc, e, h1, h2, -⟩
    · simp at e
      subst e
      exact ⟨_, _, _, _, _, _, _, _, _, _, _, _, _, _, _, _, _, _, rfl, hk, hv, Nat.le_refl _, by omega⟩
    · simp at e
      subst e
      unfold maxLen at h2
      exact ⟨_, _, _, _, _, _, _, _, _, _, _, _, _, _, _, _, _, _, rfl, hk, hv, h1, h2⟩
end Go.Proofs.YtbikkioipamlmaaGreatDoor
namespace Go.Proofs.YtbikkioipamlmaaGreatDoor
open Go.Maps Go.RowKit L21 T16
theorem and_63 (x : Int) : ∃ m : Nat, m <= 63 /\ bits .and .i64 x 63 = (m : Int) := by
  have h1 : (BitVec.ofInt 64 x &&& BitVec.ofInt 64 63).toNat <= 63 := by
    rw [BitVec.toNat_and]
    have : (BitVec.ofInt 64 63).toNat = 63 := by decide
    rw [this]
    exact Nat.and_le_right
  refine ⟨(BitVec.ofInt 64 x &&& BitVec.ofInt 64 63).toNat, h1, ?_⟩
  show IntKind.i64.wrap ((BitVec.ofInt 64 x &&& BitVec.ofInt 64 63).toNat : Nat) = _
  rw [IntWalk.i64_in _ ⟨by omega, by omega⟩]
theorem recChk_small {ver ttl : Int} {ks vs : List Int} (hv : ver = 1 \/ ver = 2) (h0 : 0 < ks.length) (h1 : ks.length <= 255) (h2 : vs.length <= 65536) (h3 : 0 <= ttl) (h4 : ttl <= 4294967295) : recChk ver ⟨1, ks, vs, ttl⟩ = 0 := by
  have h5 : 4294967295 <= latestD ver := by unfold latestD; split <;> omega
  unfold recChk
  simp only
  rw [if_neg (by omega), if_neg (by omega), if_neg (by omega), if_neg (by omega), if_neg (by omega)]
theorem expired8 (T : Nat -> Int) (x y z tt : Int) (oa ka va pa : Option Addr) (on oc kn kc vn vc pn pc : Nat) (kbs vbs : List Int) (w : World) (hT : CrcT T w) (hk : Rd8 w ka kn kc kbs) (hv : Rd8 w va vn vc vbs) (hp : pn <= pc) (hp2 : pc <= 9223372036854775807) :
    Calls prog 5 #[.agg #[.int .i64 x, .int .i64 y, .int .i64 z, .slice oa on oc, .slice ka kn kc, .slice va vn vc, .int .i64 tt, .slice pa pn pc]] w fun e w' => e = .returned (.bool true) /\ Below w.heap.size w w' := by
  obtain ⟨tm, tm1, htm⟩ := and_63 tt
  obtain ⟨km, hkm⟩ : ∃ m, min kn 20 = m := ⟨_, rfl⟩
  obtain ⟨vm, hvm⟩ : ∃ m, min vn 20 = m := ⟨_, rfl⟩
  have hkmi : min (kn : Int) 20 = (km : Int) := by omega
  have hvmi : min (vn : Int) 20 = (vm : Int) := by omega
  have hkc := hk.cap_le
  have hvc := hv.cap_le
  have SK := fun W => slice_hi ka kn kc km (km : Int) rfl (by omega) W
  have SV := fun W => slice_hi va vn vc vm (vm : Int) rfl (by omega) W
  have hw1 : IntKind.i64.wrap (1 + (tm : Int)) = 1 + (tm : Int) := IntWalk.i64_in _ (by omega)
  have HK := hid (hk.take km (by omega) (fun e => (hk.nil e).2))
  have HV := hid (hv.take vm (by omega) (fun e => (hv.nil e).2))
  have HT := hid hT
  have HCK := hid hkc
  have HCV := hid hvc
  have HKM := hid hkm
  have HVM := hid hvm
  have HP := hid hp
  have HP2 := hid hp2
  have BX := hid (show ∀ (o1 o2 : Obj) (n : Nat), CrcT T (((w.alloc o1).alloc o2).drewN n) /\ w.heap.size <= (((w.alloc o1).alloc o2).drewN n).heap.size /\ (∀ W, Below (((w.alloc o1).alloc o2).drewN n).heap.size (((w.alloc o1).alloc o2).drewN n) W -> Below w.heap.size w W) from fun o1 o2 n =>
    have hb : Below w.heap.size w (((w.alloc o1).alloc o2).drewN n) := below_drewN (((Below.refl _ _).alloc (Nat.le_refl _) _).alloc (by simp) _) n
    ⟨hT.below hb hT.lt, hb.size, fun W hW => tB hb hW⟩)
  clear hT hk hv hkm hvm hkc hvc hp hp2
  go_enter Tryz.func5, Tryz.ntmps5
  go_wp2_with fail
  go_region
  go_wp2_with fail
  go_quiet (fail)
  go_wp2_with fail
  with_reducible refine (fresh8 T x y z (.slice oa on oc) _ (BX.out _ _ _).1 rfl).mono ?_
  rintro e w1 ⟨dp, xb, p1, l, ib, mb, cap, n, wn, sb, kb, tb, cb, qb, P, Q, R, lv, col, rfl, hF⟩
  have hF' := (BX.out _ _ _).2.2 _ hF.be
  have F0 := hid (show ∀ j, j < w.heap.size -> col j = 0 /\ j ≠ xb /\ j ≠ kb from fun j hj => hF.old j (Nat.lt_of_lt_of_le hj (BX.out _ _ _).2.1))
  have B1 := hid hF'
  have S1 := hid hF.s0
  have A1 := hid hF.ca
  have OK := hid hF.ok
  have WN := hid hF.wn
  clear hF hF' BX
  have T1 := hid (HT.out.below B1.out HT.out.lt)
  have BG := hid (begun8 T w1 T1.out)
  rcases Nat.eq_zero_or_pos km with hk0 | hk0
  · subst hk0
    go_wp2_with fail
    with_reducible refine BG.out.mono ?_
    rintro e w2 ⟨rfl, hb2⟩
    have FIN := hid (tB B1.out hb2)
    clear hb2
    go_wp2_with fail
    go_ret
    exact ⟨rfl, FIN.out⟩
  · have dk0 : decide ((km : Int) = 0) = false := by simp; omega
    clear BG
    have HK1 := hid (HK.out.below B1.out (Nat.le_refl _))
    have HV1 := hid (HV.out.below B1.out (Nat.le_refl _))
    have KA := hid (show Aside xb kb col ka from fun ad e => by
      obtain ⟨b, off, e', hb, _⟩ := HK.out.el 0 hk0
      rw [e] at e'
      cases e'
      exact F0.out _ hb)
    have VA := hid (show 0 < vm -> Aside xb kb col va from fun hv0 ad e => by
      obtain ⟨b, off, e', hb, _⟩ := HV.out.el 0 hv0
      rw [e] at e'
      cases e'
      exact F0.out _ hb)
    obtain ⟨ks, hks⟩ : ∃ q, kbs.take km = q := ⟨_, rfl⟩
    obtain ⟨vs, hvs⟩ : ∃ q, vbs.take vm = q := ⟨_, rfl⟩
    rw [hks] at HK HK1
    rw [hvs] at HV HV1
    have hkl := HK.out.len
    have hvl := HV.out.len
    have hk20 : km <= 20 := by have := HKM.out; omega
    have hv20 : vm <= 20 := by have := HVM.out; omega
    have hrc : recChk l.ver ⟨1, ks, vs, 1 + (tm : Int)⟩ = 0 := by
      have hv := OK.out.1
      unfold formB at hv
      rw [decide_eq_true_eq] at hv
      exact recChk_small hv.2.2.1 (by omega) (by omega) (by omega) (by omega) (by omega)
    have RC := hid hrc
    have SE := hid (cset1 ka va km kc vm vc ks vs (1 + (tm : Int)) S1.out A1.out HK1.out HV1.out KA.out VA.out OK.out.1 (by rw [secs0_length]; omega) (by have := WN.out; omega) hk0 (by omega) (by omega) (by omega) (by omega) (by omega))
    have hw2 : IntKind.i64.wrap (1 + (tm : Int) - 1) = (tm : Int) := by rw [IntWalk.i64_in _ (by omega)]; omega
    have HK20 := hid hk20
    have HV20 := hid hv20
    have HKL := hid hkl
    have HVL := hid hvl
    clear hks hvs hrc hk20 hv20 hkl hvl
    go_wp2_with fail
    with_reducible refine SE.out.mono ?_
    rintro e w2 ⟨rfl, n2, lv2, rb, pb, P2, Q2, R2, sv2, c2, k2, col2, s2, a2, q2⟩
    have S2 := hid s2
    have A2 := hid a2
    have Q2' := hid q2
    have TK := hid (ctick0 (tm : Int) _ _ s2 a2 (by omega) (by omega) (by omega) (by omega) (by show (0 : Int) + (tm : Int) < 1 + (tm : Int); omega))
    clear s2 a2 q2 SE
    go_wp2_with fail
    with_reducible refine TK.out.mono ?_
    rintro e w3 ⟨rfl, col3, s3, a3, q3⟩
    have S3 := hid s3
    have A3 := hid a3
    have Q3 := hid (Q2'.out.trans q3)
    clear s3 a3 q3 TK
    have GE := hid (cget1 ka km kc vm km ⟨1, ks, vs, 1 + (tm : Int)⟩ false ks S3.out A3.out (Aside.rd HK1.out KA.out Q3.out) hk0 (by have := HK20.out; omega) (Aside.step HK1.out hk0 KA.out Q3.out) RC.out HKL.out HVL.out (by omega) (by omega) (by omega))
    go_wp2_with fail
    with_reducible refine GE.out.mono ?_
    rintro e w4 ⟨a4, c4, P4, cc4, k4, col4, rfl, ho4, s4, a4', q4⟩
    obtain ⟨a9, c9, e9, hr4⟩ := ho4.rd
    have S4 := hid s4
    have A4 := hid a4'
    have Q4 := hid (Q3.out.trans q4)
    have R4 := hid (show Rd8 w4 a4 vm c4 vs from by
      have e10 : (⟨1, ks, vs, 1 + (tm : Int)⟩ : Rec).val.length = vm := HVL.out
      rw [e10] at e9 hr4
      cases e9
      exact hr4)
    have EQ := req8 a4 va vm c4 vm vc vs vs w4 R4.out (Aside.rd0 HV1.out VA.out Q4.out) (by have := HV20.out; omega) (by have := HV20.out; omega)
    rw [decide_eq_true (rfl : vs = vs)] at EQ
    have EQ := hid EQ
    clear ho4 s4 a4' q4 e9 hr4 GE a9 c9
    go_wp2_with fail
    with_reducible refine EQ.out.mono ?_
    rintro e w5 ⟨rfl, hb5⟩
    have S5 := hid (S4.out.below hb5)
    have A5 := hid (A4.out.below hb5)
    have Q5 := hid (Q4.out.trans (KStep.bel hb5))
    have TK5 := hid (ctick1 1 _ _ S5.out A5.out (by omega) (by omega) (by omega) (by omega) (by rw [nums_size, HKL.out]; have := HK20.out; omega) (show (Lit.int .i64 1).wf = true from by decide) (show (Lit.int .i64 0).wf = true from by decide) (by show (1 : Int) <= 1 + (tm : Int); omega) (by show 1 + (tm : Int) <= 0 + (tm : Int) + 1; omega))
    clear hb5 EQ
    go_wp2_with fail
    with_reducible refine TK5.out.mono ?_
    rintro e w6 ⟨rfl, P6, Q6, R6, col6, s6, a6, q6⟩
    have hrl : (recE T l.ver 1 0 ⟨1, ks, vs, 1 + (tm : Int)⟩).length = 16 + km + vm := by rw [recE_length]; simp only; rw [HKL.out, HVL.out]
    have SY := hid (csync1 s6 a6 OK.out.1 (by rw [hrl]; omega) (by rw [hrl]; have := HK20.out; have := HV20.out; omega) (by rw [List.length_set, secs0_length]; omega) (by have := WN.out; omega))
    have Q6' := hid (Q5.out.trans q6)
    have HRL := hid hrl
    clear s6 a6 q6 TK5 hrl
    go_wp2_with fail
    with_reducible refine SY.out.mono ?_
    rintro e w7 ⟨rfl, n7, sv7, col7, s7, a7, q7⟩
    have S7 := hid s7
    have A7 := hid a7
    have Q7 := hid (Q6'.out.trans q7)
    clear s7 a7 q7 SY
    have G7 := hid (cget0 ka km kc ks S7.out A7.out (Aside.rd HK1.out KA.out Q7.out) hk0 (by have := HK20.out; omega) (Aside.step HK1.out hk0 KA.out Q7.out) (by omega))
    go_wp2_with fail
    with_reducible refine G7.out.mono ?_
    rintro e w8 ⟨P8, cc8, k8, col8, rfl, s8, a8, q8⟩
    have Q8 := hid (Q7.out.trans q8)
    have S8 := hid s8
    clear s8 a8 q8 G7
    obtain ⟨z, hz⟩ : ∃ z, 16 + km + vm + z = 59 := ⟨59 - (16 + km + vm), by have := HK20.out; have := HV20.out; omega⟩
    have hz0 : 0 < z := by have := HK20.out; have := HV20.out; omega
    have hok := OK.out
    have hfo := formB_rng hok.1
    have hrr : l.rg * l.rs <= 48 := by
      have h1 : l.rg * l.rs <= 6 * 8 := Int.mul_le_mul hok.2.2.2 hok.2.2.1 (by omega) (by omega)
      omega
    have hmn : (74 : Int) + (l.rg.toNat * l.rs.toNat : Nat) <= 170 := by
      rw [Int.natCast_mul, Int.toNat_of_nonneg (by omega), Int.toNat_of_nonneg (by omega)]; omega
    obtain ⟨hp1, hp2⟩ := rec_pad T l.ver 1 ⟨1, ks, vs, 1 + (tm : Int)⟩ HKL.out HVL.out hz hz0
    have hdv := S8.out.dv
    rw [hp1, List.take_of_length_le (by rw [hp2]; omega)] at hdv
    have hsl := secs2_length (crcF T) 170 l (recE T l.ver 1 0 ⟨1, ks, vs, 1 + (tm : Int)⟩ ++ List.replicate z 0)
    have RE := hid (reopen8 T dp ib mb cap n7 (secs2 (crcF T) 170 l (recE T l.ver 1 0 ⟨1, ks, vs, 1 + (tm : Int)⟩ ++ List.replicate z 0)) _ pa pn pc l (1 + (tm : Int)) ⟨1, ks, vs, 1 + (tm : Int)⟩ km vm z w8 hdv HP.out (by have := HP.out; have := HP2.out; omega) S8.out.ct hok.1 (by unfold fitsB; rw [hok.1, hsl]; simp; omega)
      (secs2_get _ _ _ _ 0 (by omega) (by omega) (by omega) (by omega)) (secs2_sup _ _ _ _ (by omega)) (by rw [hsl]; omega) (secs2_cand _ _ _ _ hok.1 (by omega) _ (by omega)) RC.out rfl HKL.out HVL.out hz hz0
      (secs2_str _ _ _ _ hok.1 hp2 (by omega) (by omega)) (by show 1 + (tm : Int) ≠ 0; omega) (by show 1 + (tm : Int) <= 1 + (tm : Int); omega) (by omega) (by omega))
    clear hz hz0 hok hfo hrr hmn hp1 hp2 hdv hsl
    go_wp2_with fail
    with_reducible refine RE.out.mono ?_
    rintro e w9 ⟨dp2, xb2, ib2, mb2, cap2, sb2, kb2, tb2, cb2, qb2, P9, Q9, R9, lv9, col9, rfl, hh⟩
    have K8 := hid (Aside.rd HK1.out KA.out Q8.out)
    have G9 := hid (cget2 ka km kc ks hh.s2 hh.ca (K8.out.below hh.be (Nat.le_refl _)) hk0 (by have := HK20.out; omega) (fun ad e => by
      obtain ⟨b, off, e', hb, _⟩ := K8.out.el 0 hk0
      rw [e] at e'
      cases e'
      exact hh.old _ hb) (by omega))
    have HH := hid hh
    clear hh RE
    go_wp2_with fail
    with_reducible refine G9.out.mono ?_
    rintro e w10 ⟨P10, cc10, k10, col10, rfl, s10, a10, q10⟩
    have B10 := hid (q10.old_below HH.out.be HH.out.old)
    have BG := hid (begun8 T w10 s10.ct)
    clear s10 a10 q10 G9
    go_wp2_with fail
    with_reducible refine BG.out.mono ?_
    rintro e w11 ⟨rfl, hb11⟩
    have FIN := hid (tB (tB (Q8.out.old_below B1.out F0.out) B10.out) hb11)
    clear hb11
    go_wp2_with fail
    go_ret
    exact ⟨rfl, FIN.out⟩
end Go.Proofs.YtbikkioipamlmaaGreatDoor
namespace Go.Proofs.YtbikkioipamlmaaGreatDoor
open Go.ChangeAt Go.ChangeShapes Go.RowKit Go.WideShapes
def crcL : List Int := [0, 274646895, 549293790, 820201905, 1098587580, 1361435347, 1640403810, 1905808397, 2197175160, 2460548119, 2722870694, 2987750089, 3280807620, 3553878443, 3811616794, 4084100981]
def crcTab (i : Nat) : Int := crcL[i]?.getD 0
abbrev laidC : List (String × DataW Unit) := [("flashcache/crc.table", Rows.laid_flashcache_crc_table)]
theorem gCrc : prog.globalNamed "flashcache/crc.table" = some 0 := by kernel_rfl
theorem tCrc : (prog.globals[0]?).map (·.type) = some 470 := by kernel_rfl
theorem laidC_eq {H : Type} : (Rows.laid_flashcache_crc_table : DataW H) = .agg (crcL.map (fun z => .lit (.int .u32 z))) := rfl
theorem crc_of_laid {W : World} (h : laidMetH prog laidC W) : CrcT crcTab W := by
  rw [MakeChecks.laidMetH_plain _ _ _ (by kernel_rfl)] at h
  obtain ⟨ps, ⟨g0, t0, cs0, f0, p0, q0, hg0, ht0, hv0, hd0, hr, hx⟩, hq⟩ := h
  obtain rfl := Option.some.inj (gCrc.symm.trans hg0)
  obtain rfl := Option.some.inj (tCrc.symm.trans ht0)
  obtain ⟨xs, m1, rfl, hx1, hlen, hn3, hel⟩ := DataW.trod_array Tryz.underlying470 hd0
  have c1 : prog.cellsOf 125 = 1 := by kernel_rfl
  simp only [Prod.mk.injEq, laidC_eq, DataW.agg.injEq] at hx1
  refine ⟨fun i hi => ?_⟩
  have h1 := hel i hi
  rw [c1, Nat.mul_one, List.getElem?_eq_getElem (show i < xs.length by omega)] at h1
  obtain ⟨k, e1, e2, _⟩ := DataW.trod_int Tryz.underlying125 h1
  have h2 : (xs.map (·.1))[i]? = some (.lit (.int .u32 k)) := by
    rw [List.getElem?_map, List.getElem?_eq_getElem (show i < xs.length by omega), e2]; rfl
  rw [<- hx1.1, List.getElem?_map] at h2
  have h3 : crcL[i]? = some k := by
    cases hc : crcL[i]? with
    | none => rw [hc] at h2; cases h2
    | some z =>
      rw [hc] at h2
      simp at h2
      rw [h2]
  have h4 := World.var?_cell hg0 hv0 i
  rw [h4]
  have h5 : cs0.toList[i]? = some (.int .u32 k) := by
    have h6 := congrArg (fun l => l[0]?) e1
    simpa [List.getElem?_take, List.getElem?_drop] using h6
  rw [<- Array.getElem?_toList, h5]
  unfold crcTab
  rw [h3]
  rfl
theorem door_met (os : Os) (args : Array Value) : laidMetH prog laidC ((World.doorLaid prog 14 os).forCall (fun _ _ => 0) ⟨#[], args, []⟩).memory :=
  laidMetH_of_parts3 (fuel := 8) (laidMet_of_run' 8 (by kernel_rfl) (by kernel_rfl)) (by kernel_rfl) (by kernel_rfl)
end Go.Proofs.YtbikkioipamlmaaGreatDoor
