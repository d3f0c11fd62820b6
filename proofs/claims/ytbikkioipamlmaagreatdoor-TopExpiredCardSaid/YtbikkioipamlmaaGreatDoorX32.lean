/-
  Laws and contracts for the statement TopExpired.
-/
import Derived.Test.YtbikkioipamlmaaGreatDoorX31
open Go.Lib (hid)
open Go.Proofs.Tryz (prog)
set_option linter.unusedVariables false
set_option linter.unusedSimpArgs false
set_option maxRecDepth 100000
set_option maxHeartbeats 20000000
namespace Go.Proofs.YtbikkioipamlmaaGreatDoor
open Go.Maps Go.RowKit
theorem alatest8 (ver : Int) (w : World) : Calls prog 137 #[.int .i64 ver] w fun e w' => e = .returned (.int .i64 (latestD ver)) /\ w = w' := by
  by_cases h : ver = 1
  · have e : latestD ver = 4294967295 := by unfold latestD; rw [if_pos h]
    rw [e]
    subst h
    go_enter Tryz.func137, Tryz.ntmps137
    go_wp2_with fail
    go_ret
    exact ⟨rfl, rfl⟩
  · have e : latestD ver = 1099511627775 := by unfold latestD; rw [if_neg h]
    rw [e]
    go_enter Tryz.func137, Tryz.ntmps137
    go_wp2_with fail
    go_ret
    exact ⟨rfl, rfl⟩
theorem admit0 (p : Bool) (n : Int) (w : World) : Calls prog 77 #[.bool false, .bool p, .int .i64 n] w fun e w' => e = .returned (.bool true) /\ w = w' := by
  go_enter Tryz.func77, Tryz.ntmps77
  go_wp2_with fail
  go_ret
  exact ⟨rfl, rfl⟩
theorem acheck8 (l : Lay) (now ttl : Int) (ka va : Option Addr) (kn kc vn vc : Nat) (w : World) (hf : formB l = true) (n0 : 0 <= now) (n1 : now <= 549755813888) (t0 : 1 <= ttl) (t1 : now + ttl <= 4294967295) (k0 : 1 <= kn) (k1 : kn <= 255) (v1 : vn <= 65536) (hfit : ((16 + kn + vn : Nat) : Int) <= capD l) :
    Calls prog 72 #[.agg #[.int .i64 l.id, .int .i64 l.ver, .int .i64 l.rs, .int .i64 l.rg], .int .i64 now, .slice ka kn kc, .slice va vn vc, .int .i64 ttl] w fun e w' => e = .returned (.tuple #[.int .i64 (now + ttl), .int .i64 0]) /\ Below w.heap.size w w' := by
  have FM := hid (fun W => form20 l.id l.ver l.rs l.rg W)
  rw [show (⟨l.id, l.ver, l.rs, l.rg⟩ : Lay) = l from rfl, hf] at FM
  have LT := hid (fun W => alatest8 l.ver W)
  have CP := hid (fun W => capacity14 l.id l.ver l.rs l.rg W)
  rw [show (⟨l.id, l.ver, l.rs, l.rg⟩ : Lay) = l from rfl] at CP
  have RL := hid (fun W => rlen8 0 0 ka va kn kc vn vc W (by omega) (by omega))
  have hlat : 4294967295 <= latestD l.ver /\ latestD l.ver <= 1099511627775 := by unfold latestD; split <;> omega
  obtain ⟨lat, hlt⟩ : ∃ lat, latestD l.ver = lat := ⟨_, rfl⟩
  rw [hlt] at LT hlat
  obtain ⟨cp, hcp⟩ : ∃ cp, capD l = cp := ⟨_, rfl⟩
  rw [hcp] at CP hfit
  obtain ⟨rl, hrl⟩ : ∃ rl, 16 + kn + vn = rl := ⟨_, rfl⟩
  rw [hrl] at RL hfit
  clear hf hlt hcp hrl
  have hg1 : ¬ (ttl > lat - now) := by omega
  have hk0 : ((kn : Int) == 0) = false := beq_eq_false_iff_ne.2 (by omega)
  have ht9 : (ttl == 0) = false := beq_eq_false_iff_ne.2 (by omega)
  have ht0 : ¬ (ttl = 0) := by omega
  have htb : (ttl != 0) = true := by simp [ht0]
  have K := hid (show ∀ W, Below (w.alloc (.cells #[.int .i64 l.id, .int .i64 l.ver, .int .i64 l.rs, .int .i64 l.rg] 26)).heap.size (w.alloc (.cells #[.int .i64 l.id, .int .i64 l.ver, .int .i64 l.rs, .int .i64 l.rg] 26)) W -> W.cell? ⟨w.heap.size, 0, none⟩ = some (.int .i64 l.id) /\ W.cell? ⟨w.heap.size, 1, none⟩ = some (.int .i64 l.ver) /\ W.cell? ⟨w.heap.size, 2, none⟩ = some (.int .i64 l.rs) /\ W.cell? ⟨w.heap.size, 3, none⟩ = some (.int .i64 l.rg) from fun W hW =>
    have e := (hW.block w.heap.size (by simp)).trans (nB w _)
    ⟨qB e, qB e, qB e, qB e⟩)
  have BA := hid (fun W (hW : Below (w.alloc (.cells #[.int .i64 l.id, .int .i64 l.ver, .int .i64 l.rs, .int .i64 l.rg] 26)).heap.size (w.alloc (.cells #[.int .i64 l.id, .int .i64 l.ver, .int .i64 l.rs, .int .i64 l.rg] 26)) W) => tB ((Below.refl w.heap.size w).alloc (Nat.le_refl _) _) hW)
  go_enter Tryz.func72, Tryz.ntmps72
  go_wp2_with fail
  with_reducible refine (FM.out _).mono ?_
  rintro e w1 ⟨rfl, hb1⟩
  obtain ⟨q0, q1, q2, q3⟩ := K.out _ hb1
  have B1 := hid hb1
  clear hb1
  go_wp2_with fail
  with_reducible refine (LT.out _).mono ?_
  rintro e w2 ⟨rfl, rfl⟩
  have K1 := hid (K.out w1.drew (B1.out.drew))
  go_upto_region 11 with fail
  go_region_held3 (fun w' => w'.cell? ⟨w.heap.size, 0, none⟩ = some (.int .i64 l.id) /\ w'.cell? ⟨w.heap.size, 1, none⟩ = some (.int .i64 l.ver) /\ w'.cell? ⟨w.heap.size, 2, none⟩ = some (.int .i64 l.rs) /\ w'.cell? ⟨w.heap.size, 3, none⟩ = some (.int .i64 l.rg)) (first | with_reducible exact hS2 | with_reducible exact hS1 | with_reducible exact K1.out)
    (first
      | ((go_at_call 138); (with_reducible refine (RL.out _).mono ?_); (rintro e y ⟨rfl, hb2⟩); (have hB2 := tB hB1 hb2); (have hS2 := K.out _ hB2))
      | ((go_at_call 129); (with_reducible refine (CP.out _).mono ?_); (rintro e y ⟨rfl, hb2⟩); (have hB2 := tB hB1 hb2); (have hS2 := K.out _ hB2))
      | ((go_at_call 138); (with_reducible refine (RL.out _).mono ?_); (rintro e x ⟨rfl, hb1⟩); (have hB1 := tB B1.out.drew hb1); (have hS1 := K.out _ hB1))
      | ((go_at_call 129); (with_reducible refine (CP.out _).mono ?_); (rintro e x ⟨rfl, hb1⟩); (have hB1 := tB B1.out.drew hb1); (have hS1 := K.out _ hB1)))
  all_goals
    have hBW := hid (BA.out _ hB2)
    clear hb1 hb2 hB1 hB2 hS1 hS2
    go_wp2_with fail
    go_ret2
    exact ⟨rfl, hBW.out⟩
end Go.Proofs.YtbikkioipamlmaaGreatDoor
namespace Go.Proofs.YtbikkioipamlmaaGreatDoor
open Go.Maps Go.RowKit L21 T16
theorem sup_field5 (a b c d e f g h i j k l m : Int) (v : Value) (W : World) : (Instr.field 58 (.agg #[.int .i64 a, .int .i64 b, .int .i64 c, .int .i64 d, .int .i64 e, .int .i64 f, .int .i64 g, .int .i64 h, .int .i64 i, .int .i64 j, .int .i64 k, .int .i64 l, .int .i64 m, v]) 5).run prog W = .ok (.agg #[.int .i64 f, .int .i64 g, .int .i64 h, .int .i64 i]) W := by kernel_rfl
theorem rd8_fr0 {w w' : World} {F : Nat -> Prop} {a : Option Addr} {n cap : Nat} {bs : List Int} (h : Rd8 w a n cap bs) (hf : Fr F w w') (hF : ∀ ad, a = some ad -> 0 < n -> ¬ F ad.block) : Rd8 w' a n cap bs := by
  rcases Nat.eq_zero_or_pos n with q | q
  · exact ⟨h.len, fun i hi => by omega, h.cap_le, h.nil, h.byt⟩
  · exact h.fr hf (fun ad e => hF ad e q)
section
variable {w w' : World} {T : Nat -> Int} {xb kb sb tb cb qb dp ib mb cap n wn N : Nat} {g hi se rj : Int} {c : Nat -> Nat} {k : Nat} {D : DataW Nat} {S : List (List Int)} {l : Lay} {now : Int} {P Q R : Nat -> Prop} {lv : Value} {col : Nat -> Nat}
theorem Ss0.stepT (h : Ss0 w T sb tb cb qb dp ib mb cap n D S wn l now N P Q R lv col) (hs : TabStp w w' tb none N P) :
    ∃ P', Ss0 w' T sb tb cb qb dp ib mb cap n D S wn l now N P' Q R lv (paint w w' 1 col) /\ CStep w w' col (paint w w' 1 col) := by
  obtain ⟨P', t', f', n'⟩ := hs
  have ll := h.ix.lt
  have fx : Fr (ixF P Q R) w w' := f'.mono (fun j _ hj => .inl hj)
  have ne : ∀ j c, col j = c -> c ≠ 1 -> ¬ ixF P Q R j := fun j c e hc hj => hc (e.symm.trans (h.k1 j hj))
  have hx : Ix w' tb cb qb none N P' Q R := ⟨t', h.ix.c.frame f' (fun j hj hp => h.ix.pq j hp hj), h.ix.q.frame f' (fun j hj hp => h.ix.pr j hp hj),
    fun j hp hq => (n' j hp).elim (fun e => h.ix.pq j e hq) (fun e => by have := ll j (.inr (.inl hq)); omega), fun j hp hr => (n' j hp).elim (fun e => h.ix.pr j e hr) (fun e => by have := ll j (.inr (.inr hr)); omega), h.ix.qr⟩
  exact ⟨P', ⟨h.sto.fr fx (ne _ _ h.k5 (by omega)), hx, h.dv.fr fx (fun j hj => ne _ _ (h.k2 j hj) (by omega)), own_fr h.lr fx (fun b hb => ne _ _ (h.k4 b hb) (by omega)), h.ct.fr fx (ne _ _ h.kz (by omega)), paint_out fx.size h.k0, (paint_old h.ct.lt).trans h.kz, paint_foot h.k1 h.ix.lt (fun j hj => by
    rcases hj with e | e | e
    · exact (n' j e).imp .inl id
    · exact .inl (.inr (.inl e))
    · exact .inl (.inr (.inr e))) hx.lt, paint_keep h.k2 h.dv.lt, fun b hb => (paint_old (h.lr.lt b hb).2).trans (h.k4 b hb), (paint_old (lB h.sto)).trans h.k5⟩, CStep.paint fx (fun j hj => by rw [h.k1 j hj]; omega)⟩
theorem cset1 (ka va : Option Addr) (kn kc vn vc : Nat) (kbs vbs : List Int) (ttl : Int) (hs : Ss0 w T sb tb cb qb dp ib mb cap n D S wn l 0 N P Q R lv col) (h : CaS w xb sb kb g hi se rj c k col)
    (hk : Rd8 w ka kn kc kbs) (hv : Rd8 w va vn vc vbs) (hka : Aside xb kb col ka) (hva : 0 < vn -> Aside xb kb col va) (hf : formB l = true) (hS : 76 <= S.length) (hwr : wn + 1 <= 1000000) (k0 : 1 <= kn) (hlen : 16 + kn + vn < 59) (t0 : 1 <= ttl) (t1 : ttl <= 4294967295) (hN : N <= 1000) (s9 : se + 1 <= 1000) :
    Calls prog 22 #[.pointer (some ⟨xb, 0, none⟩), .slice ka kn kc, .slice va vn vc, .int .i64 ttl] w fun e w' => e = .returned (.int .i64 0) /\ ∃ n' lv' rb pb P' Q' R' sv' c2 k2 col', Ss1 w' T sb tb cb qb dp ib mb cap n' (.map []) (S.set 74 (hdE (crcF T) 74 (hd1 l))) (wn + 1) l 0 (some (strOfNums kbs, ⟨1, 0, ((16 + kn + vn : Nat) : Int), ttl, false⟩)) (N + 1) P' Q' R' lv' rb pb (recE T l.ver 1 0 ⟨1, kbs, vbs, ttl⟩) 0 sv' col' /\ CaS w' xb sb kb g hi (se + 1) rj c2 k2 col' /\ KStep w w' xb kb col col' := by
  have hcap := capD_rng hf
  have hkl := hk.len
  have hvl := hv.len
  have hc : recChk l.ver ⟨1, kbs, vbs, ttl⟩ = 0 := by
    have h1 := (formB_pow hf).2.2.1
    have h2 : 4294967295 <= latestD l.ver := by unfold latestD; split <;> omega
    unfold recChk
    simp only
    rw [if_neg (by omega), if_neg (by omega), if_neg (by omega), if_neg (by omega), if_neg (by omega)]
  have DN := hid (cdown8 xb sb kb tb cb qb dp ib mb cap n D S wn g hi se rj 0 l lv none 1 0 w h.ca hs.sto hs.dv)
  have SU := hid (stsuper8 sb tb cb qb dp ib mb cap n D S wn 0 l lv none 1 0 w.drew (hs.below (Below.refl _ _).drew).sto (hs.below (Below.refl _ _).drew).dv)
  have NW := hid (fun W (hW : Below w.heap.size w W) => now8 sb tb cb qb dp ib mb cap n D S wn 0 l lv none 1 0 W (hs.below hW).sto (hs.below hW).dv)
  have AC := hid (fun W => acheck8 l 0 ttl ka va kn kc vn vc W hf (by omega) (by omega) t0 (by omega) k0 (by omega) (by omega) (by omega))
  rw [Int.zero_add] at AC
  have HF5 := fun W : World => sup_field5 1 1 0 1 0 l.id l.ver l.rs l.rg 0 0 0 0 (.slice none 0 0) W
  obtain ⟨hh, hh0, hh1, hash⟩ := hkey8 ka kn kc kbs w hk (by omega)
  have HH := hid hash
  have HC := hid h
  have HS := hid hs
  have HK := hid hk
  have HV := hid hv
  have KA := hid hka
  have VA := hid hva
  have HCK := hid hc
  have HFO := hid hf
  have HLEN := hid hlen
  obtain ⟨key, hkey⟩ : ∃ q, strOfNums kbs = q := ⟨_, rfl⟩
  have HKS := hid (show key.size <= 255 by rw [<- hkey, nums_size]; omega)
  rw [hkey]
  have HKEY := hid hkey
  have hl := h.lt.1
  have K0 := hid (show ∀ W, Below w.heap.size w W -> W.cell? ⟨xb, 0, none⟩ = some (.pointer (some ⟨sb, 0, none⟩)) from fun W hW => (hW.cell (p := ⟨xb, 0, none⟩) h.lt.1).trans (qB (i := 0) h.ca))
  have KD := hid (K0.out w.drew (Below.refl _ _).drew)
  have BD := hid ((Below.refl w.heap.size w).drew)
  clear hcap hkl hvl hc hs h hk hv hka hva hf hash hkey hlen
  go_enter Tryz.func22, Tryz.ntmps22
  go_wp2_with fail
  with_reducible refine DN.out.mono ?_
  rintro e x0 ⟨rfl, rfl⟩
  go_upto_region 3 with fail
  go_region_held3 (fun w' => w'.cell? ⟨xb, 0, none⟩ = some (.pointer (some ⟨sb, 0, none⟩))) (first | with_reducible exact hS2 | with_reducible exact hS1 | with_reducible exact KD.out)
    (first
      | ((go_at_call 72); (with_reducible refine (AC.out _).mono ?_); (rintro e x2 ⟨rfl, hb2⟩); (have hB2 := tB hB1 hb2); (have hS2 := K0.out _ hB2))
      | ((go_at_call 51); (with_reducible refine SU.out.mono ?_); (rintro e x1 ⟨rfl, hb1⟩); (have hB1 := bidd hb1); (have hS1 := K0.out _ hB1))
      | ((go_at_call 73); (with_reducible refine (NW.out _ BD.out).mono ?_); (rintro e x9 ⟨rfl, rfl⟩))
      | ((go_at_call 73); (with_reducible refine (NW.out _ hB1).mono ?_); (rintro e x9 ⟨rfl, rfl⟩)))
  all_goals
    have B2 := hid hB2
    have S2 := hid (HS.out.below hB2)
    have CA2 := hid (HC.out.step (CStep.below hB2))
    have HK2 := hid (HK.out.below hB2 (Nat.le_refl _))
    have HV2 := hid (HV.out.below hB2 (Nat.le_refl _))
    have H2 := hid (HH.out x2 HK2.out)
    have TO := hid (S19.touch7 kb hh c k x2 hh0 hh1 CA2.out.sk CA2.out.c15 CA2.out.k640)
    unfold S19.NoRes at TO
    have e1 : x2.cell? ⟨xb, 1, none⟩ = some (.pointer (some ⟨kb, 0, none⟩)) := qB (i := 1) CA2.out.ca
    have hl2 := CA2.out.lt.1
    clear hb1 hb2 hB1 hB2 hS1 hS2 SU NW AC HF5 DN KD BD HH
    go_wp2_with fail
    with_reducible refine H2.out.mono ?_
    rintro e x9 ⟨rfl, rfl⟩
    go_wp2_with fail
    with_reducible refine TO.out.mono ?_
    rintro e x3 ⟨rfl, sk3, gr3⟩
    obtain ⟨ca3, ks3, hf3⟩ := cas_t CA2.out sk3 gr3
    have s3 := S2.out.fr hf3 (fun j hj => by rw [hj]; exact ⟨HC.out.kk, by have := HC.out.kp; omega⟩) (k0_mono S2.out.k0 hf3.size)
    have ks03 : KStep w x3 xb kb col col := (KStep.of (CStep.below B2.out)).trans ks3
    have S3 := hid s3
    have CA3 := hid ca3
    have KS3 := hid ks03
    have HK3 := hid (Aside.rd HK.out KA.out ks03)
    have HV3 := hid (Aside.rd0 HV.out VA.out ks03)
    clear sk3 gr3 ca3 ks3 hf3 s3 ks03 e1 TO H2
    have EN := hid (show ∀ W, Below x3.heap.size x3 W -> Calls prog 76 #[.pointer (some ⟨sb, 0, none⟩), .string key] W fun e w' => e = .returned (.tuple #[.agg #[.int .i64 0, .int .i64 0, .int .i64 0, .int .i64 0, .bool false], .bool false]) /\ TabStp W w' tb none N P from fun W hW =>
      (sentry8 sb tb cb qb dp ib mb cap n D S wn 0 l lv none 1 0 none N P key W (S3.out.below hW).sto (S3.out.below hW).dv (S3.out.below hW).ix.t (by have := HKS.out; omega)).mono (fun e w' q => by
        obtain ⟨b, x, rfl, hst, q1, q0⟩ := q
        cases b with
        | true => exact absurd (q1 rfl) (by simp)
        | false => obtain rfl := (q0 rfl).2; exact ⟨rfl, hst⟩))
    have BD3 := hid ((Below.refl x3.heap.size x3).drew)
    have BA3 := hid (fun (o : Obj) => (bel_al1 (w := x3) o).drew)
    have nxb := hid (show ¬ P xb from fun q => by have a := S3.out.k1 _ (.inl q); have b := CA3.out.kx; omega)
    have nfr := hid (show ¬ P x3.heap.size from fun q => by have a := S3.out.k1 _ (.inl q); have b := S3.out.k0 _ (Nat.le_refl _); omega)
    have nka := hid (show ∀ ad, ka = some ad -> ¬ P ad.block from fun ad e q => by have a := S3.out.k1 _ (.inl q); have b := (KA.out ad e).1; omega)
    have kax := hid (show ∀ ad, ka = some ad -> 0 < kn -> ad.block < x3.heap.size from fun ad e h0 => by
      obtain ⟨b, off, e', hb, _⟩ := HK3.out.el 0 h0
      rw [e] at e'
      cases e'
      exact hb)
    have MK := hid (show ∀ W, W.cell? ⟨xb, 0, none⟩ = some (.pointer (some ⟨sb, 0, none⟩)) -> Rd8 W ka kn kc kbs -> (W.cell? ⟨xb, 0, none⟩ = some (.pointer (some ⟨sb, 0, none⟩)) /\ Rd8 W ka kn kc kbs /\ (convert 33 9 (.slice ka kn kc)).run prog W = .ok (.string key) W) from fun W h1 h2 => ⟨h1, h2, HKEY.out ▸ conv_bytes h2⟩)
    have KX := hid (show ∀ W W', Below x3.heap.size x3 W -> Fr P W W' -> (W'.cell? ⟨xb, 0, none⟩ = some (.pointer (some ⟨sb, 0, none⟩)) /\ Rd8 W' ka kn kc kbs /\ (convert 33 9 (.slice ka kn kc)).run prog W' = .ok (.string key) W') from fun W W' hW hf => MK.out _ ((fr_cell hf (Nat.lt_of_lt_of_le CA3.out.lt.1 hW.size) nxb.out 0).trans ((hW.cell (p := ⟨xb, 0, none⟩) CA3.out.lt.1).trans (qB (i := 0) CA3.out.ca))) ((HK3.out.below hW (Nat.le_refl _)).fr hf nka.out))
    have KD := hid (KX.out _ _ BD3.out (Fr.refl _ _))
    have KA3 := hid (fun (o : Obj) => KX.out _ _ (BA3.out o) (Fr.refl _ _))
    have ZB := hid (show ∀ (o : Obj) W', Fr P (x3.alloc o).drew W' -> W'.heap[x3.heap.size]? = some o from fun o W' hf => (hf.block x3.heap.size (by show x3.heap.size < (x3.alloc o).heap.size; simp) nfr.out).trans (nB x3 o))
    have K5 := hid (show ∀ W, (W.cell? ⟨xb, 0, none⟩ = some (.pointer (some ⟨sb, 0, none⟩)) /\ Rd8 W ka kn kc kbs /\ (convert 33 9 (.slice ka kn kc)).run prog W = .ok (.string key) W) -> ∀ v0 v1 v2 v3 v4 : Value, ((((((W.setCell ⟨x3.heap.size, 0, none⟩ v0).setCell ⟨x3.heap.size, 1, none⟩ v1).setCell ⟨x3.heap.size, 2, none⟩ v2).setCell ⟨x3.heap.size, 3, none⟩ v3).setCell ⟨x3.heap.size, 4, none⟩ v4).cell? ⟨xb, 0, none⟩ = some (.pointer (some ⟨sb, 0, none⟩)) /\ Rd8 (((((W.setCell ⟨x3.heap.size, 0, none⟩ v0).setCell ⟨x3.heap.size, 1, none⟩ v1).setCell ⟨x3.heap.size, 2, none⟩ v2).setCell ⟨x3.heap.size, 3, none⟩ v3).setCell ⟨x3.heap.size, 4, none⟩ v4) ka kn kc kbs /\ (convert 33 9 (.slice ka kn kc)).run prog (((((W.setCell ⟨x3.heap.size, 0, none⟩ v0).setCell ⟨x3.heap.size, 1, none⟩ v1).setCell ⟨x3.heap.size, 2, none⟩ v2).setCell ⟨x3.heap.size, 3, none⟩ v3).setCell ⟨x3.heap.size, 4, none⟩ v4) = .ok (.string key) (((((W.setCell ⟨x3.heap.size, 0, none⟩ v0).setCell ⟨x3.heap.size, 1, none⟩ v1).setCell ⟨x3.heap.size, 2, none⟩ v2).setCell ⟨x3.heap.size, 3, none⟩ v3).setCell ⟨x3.heap.size, 4, none⟩ v4)) from fun W h v0 v1 v2 v3 v4 => MK.out _ ((fr_cell (fr_set5 W x3.heap.size v0 v1 v2 v3 v4) (World.block_lt_of_cell? _ _ h.1) (fun e => by have a := CA3.out.lt.1; have b : xb = x3.heap.size := e; omega) 0).trans h.1) (rd8_fr0 h.2.1 (fr_set5 W x3.heap.size v0 v1 v2 v3 v4) (fun ad e h0 q => by have a := kax.out ad e h0; have b : ad.block = x3.heap.size := q; omega)))
    have hl3 := CA3.out.lt.1
    go_upto_region 8 with fail
    go_cut [13] (fun v13 wx => v13 = .bool false /\ ∃ P' col', Ss0 wx T sb tb cb qb dp ib mb cap n D S wn l 0 N P' Q R lv col' /\ CStep x3 wx col col')
    case first =>
      go_region_held3 (fun w' => (w'.cell? ⟨xb, 0, none⟩ = some (.pointer (some ⟨sb, 0, none⟩)) /\ Rd8 w' ka kn kc kbs /\ (convert 33 9 (.slice ka kn kc)).run prog w' = .ok (.string key) w')) (first | with_reducible exact hS4 | with_reducible exact hS5 _ | with_reducible exact K5.out _ hS4 _ _ _ _ _ | with_reducible exact KD.out | with_reducible exact KA3.out _)
        (first
          | ((go_at_call 76); (with_reducible refine (EN.out _ BD3.out).mono ?_); (rintro e x4 ⟨rfl, ht4⟩); (obtain ⟨P4, t4, f4, n4⟩ := ht4); (have hS4 := KX.out _ _ BD3.out f4); (have hS5 := fun (o : Obj) => KX.out _ _ BD3.out (f4.alloc o)))
          | ((go_at_call 76); (with_reducible refine (EN.out _ (BA3.out _)).mono ?_); (rintro e x4 ⟨rfl, ht4⟩); (obtain ⟨P4, t4, f4, n4⟩ := ht4); (have hS4 := KX.out _ _ (BA3.out _) f4); (have hZ := ZB.out _ _ f4); (have z0 := qB (i := 0) hZ); (have z1 := qB (i := 1) hZ); (have z2 := qB (i := 2) hZ); (have z3 := qB (i := 3) hZ); (have z4 := qB (i := 4) hZ); (have y0 := zB (i := 0) hZ); (have y1 := zB (i := 1) hZ); (have y2 := zB (i := 2) hZ); (have y3 := zB (i := 3) hZ); (have y4 := zB (i := 4) hZ)))
      all_goals
        go_wp2_with fail
        go_meet
        refine ⟨rfl, ?_⟩
        first
          | (have hz := hZ
             have H4 := S3.out.below (bel_al1 (w := x3) (.cells #[.int .i64 0, .int .i64 0, .int .i64 0, .int .i64 0, .bool false] 110))
             obtain ⟨P5, s5, c5⟩ := H4.stepT ⟨P4, t4, fr_undrew f4, n4⟩
             have ff := fr_set5 x4 x3.heap.size (.int .i64 0) (.int .i64 0) (.int .i64 0) (.int .i64 0) (.bool false)
             have c0 : paint (x3.alloc (.cells #[.int .i64 0, .int .i64 0, .int .i64 0, .int .i64 0, .bool false] 110)) x4 1 col x3.heap.size = 0 := (paint_old (by simp)).trans (S3.out.k0 _ (Nat.le_refl _))
             have hp : 0 < x3.heap.size := S3.out.ct.lt
             exact ⟨P5, _, s5.fr ff (fun j hj => by rw [hj]; exact ⟨c0, by omega⟩) (k0_mono s5.k0 ff.size), ⟨((CStep.below (col := col) (bel_al1 (w := x3) _)).trans c5).fr.trans ff (fun j hj => .inr (by omega)), ((CStep.below (col := col) (bel_al1 (w := x3) _)).trans c5).old⟩⟩)
          | (obtain ⟨P5, s5, c5⟩ := S3.out.stepT ⟨P4, t4, fr_undrew f4, n4⟩
             exact ⟨P5, _, s5.below (bel_al1 _), c5.post (bel_al1 _)⟩)
    case rest =>
      obtain ⟨rfl, P4, col4, s4', c4'⟩ := hcut
      obtain ⟨x4, rfl⟩ : ∃ q, q = wc := ⟨_, rfl⟩
      have S4 := hid s4'
      have C4 := hid c4'
      have CA4 := hid (CA3.out.step c4')
      clear s4' c4' EN BD3 BA3 nxb nfr KX KD KA3 ZB K5 MK nka kax
      have e0 : x4.cell? ⟨xb, 0, none⟩ = some (.pointer (some ⟨sb, 0, none⟩)) := qB (i := 0) CA4.out.ca
      have e1 : x4.cell? ⟨xb, 1, none⟩ = some (.pointer (some ⟨kb, 0, none⟩)) := qB (i := 1) CA4.out.ca
      have hl4 := CA4.out.lt.1
      have BN := hid (show ∀ q, Below x4.heap.size x4 (x4.drewN q) from fun q => ⟨rfl, rfl, rfl, Nat.le_refl _, fun _ _ => rfl⟩)
      have EV := hid (show ∀ q, Calls prog 55 #[.pointer (some ⟨sb, 0, none⟩)] (x4.drewN q) fun e w' => e = .returned (.int .i64 0) /\ w' = x4.drewN q from fun q => (evicted8 sb tb cb qb dp ib mb cap n D S wn 0 l lv none 1 0 (x4.drewN q) (S4.out.below (BN.out q)).sto (S4.out.below (BN.out q)).dv).mono (fun e w' h => ⟨h.1, h.2.symm⟩))
      obtain ⟨es, hes⟩ : ∃ es : Int, ∀ q, Calls prog 78 #[.pointer (some ⟨kb, 0, none⟩), .int .u64 hh] (x4.drewN q) fun e w' => e = .returned (.int .i64 es) /\ ∃ m, w' = (x4.drewN q).drewN m := ⟨_, fun q => S19.est10 kb hh _ _ (x4.drewN q) hh0 hh1 (CA4.out.sk.drewN q) CA4.out.c15⟩
      have ES := hid hes
      have AD := hid (show ∀ q, Calls prog 77 #[.bool false, .bool false, .int .i64 es] (x4.drewN q) fun e w' => e = .returned (.bool true) /\ w' = x4.drewN q from fun q => (admit0 false es (x4.drewN q)).mono (fun e w' h => ⟨h.1, h.2.symm⟩))
      clear hes
      go_upto_region 9 with fail
      go_quiet (first
        | (go_at_call 55; exact Calls.quiet_of_same (EV.out _))
        | (go_at_call 78; exact Calls.quiet_of (ES.out _))
        | (go_at_call 77; exact Calls.quiet_of_same (AD.out _)))
      obtain ⟨x5, hx5⟩ : ∃ q, x4.drewN nq = q := ⟨_, rfl⟩
      have B5 := hid (show Below x4.heap.size x4 x5 by rw [<- hx5]; exact BN.out nq)
      rw [hx5]
      clear hx5 e0 e1
      have CS5 := hid (C4.out.post B5.out)
      have S5 := hid (S4.out.below B5.out)
      have CA5 := hid (CA3.out.step CS5.out)
      have K35 := hid (KS3.out.trans (KStep.of (xb := xb) (kb := kb) CS5.out))
      have HK5 := hid (Aside.rd HK.out KA.out K35.out)
      have HV5 := hid (Aside.rd0 HV.out VA.out K35.out)
      have nk : ∀ ad, ka = some ad -> col4 ad.block = 0 := fun ad e => (Aside.step HK.out k0 KA.out K35.out ad e).1
      have nv : ∀ ad, va = some ad -> vn = 0 \/ col4 ad.block = 0 := fun ad e => by
        rcases Nat.eq_zero_or_pos vn with q | q
        · exact .inl q
        · exact .inr (Aside.step HV.out q (VA.out q) K35.out ad e).1
      have AP := hid (show Calls prog 80 #[.pointer (some ⟨sb, 0, none⟩), .agg #[.int .i64 1, .slice ka kn kc, .slice va vn vc, .int .i64 ttl]] x5 _ from sappend1 S5.out ⟨1, kbs, vbs, ttl⟩ ka va kn kc vn vc HK5.out HV5.out nk nv HFO.out hS hwr HCK.out rfl (by show (0 : Int) < ttl; omega) HLEN.out hN)
      rw [show strOfNums (Rec.mk 1 kbs vbs ttl).key = strOfNums kbs from rfl, HKEY.out] at AP
      have e0 : x5.cell? ⟨xb, 0, none⟩ = some (.pointer (some ⟨sb, 0, none⟩)) := qB (i := 0) CA5.out.ca
      have hl5 := CA5.out.lt.1
      clear nk nv EV ES AD
      go_wp2_with fail
      with_reducible refine AP.out.mono ?_
      rintro e x6 ⟨rfl, n6, lv6, rb, pb, P6, Q6, R6, sv6, col6, s6, c6⟩
      have ca6 := CA5.out.step c6
      have A6 := hid (aadd8 xb 4 se x6 (qB (i := 4) ca6.ca) (zB (i := 4) ca6.ca) HC.out.sb'.1 (by omega))
      obtain ⟨s7, ca7, ks7⟩ := cas_s s6 ca6 s9
      have FIN := hid (And.intro s7 (And.intro ca7 (K35.out.trans ((KStep.of (xb := xb) (kb := kb) c6).trans ks7))))
      have hl6 := ca6.lt.1
      clear s6 c6 ca6 s7 ca7 ks7 e0 AP
      go_wp2_with fail
      with_reducible refine A6.out.mono ?_
      rintro e x7 ⟨rfl, hx7⟩
      rw [<- hx7] at FIN
      clear hx7 A6
      go_wp2_with fail
      go_ret
      exact ⟨rfl, _, _, _, _, _, _, _, _, _, _, _, FIN.out⟩
end
theorem copen1 (T : Nat -> Int) (dp ib mb cap n : Nat) (D : DataW Nat) (S : List (List Int)) (wn : Nat) (l : Lay) (now : Int) (r : Rec) (kn vn z : Nat) (w : World) (hd : Dev w dp ib mb cap n D S wn) (hT : CrcT T w) (hf : formB l = true) (hfit : fitsB l (S.length : Int) = true) (h0 : S[0]? = some (List.replicate 64 0)) (h1 : S[1]? = some (supE (crcF T) 1 (sup0 l)))
    (hS : 74 + l.rg.toNat * l.rs.toNat <= S.length) (hc : candL (crcF T) S l l.rg.toNat = [reg1 l]) (hck : recChk l.ver r = 0) (hkd : r.kind = 1) (hkn : r.key.length = kn) (hvn : r.val.length = vn) (hz : 16 + kn + vn + z = 59) (hz0 : 0 < z) (hst : strF (crcF T) S 1 (74 + 1) (l.rs.toNat - 1) = recE T l.ver 1 0 r ++ List.replicate z 0) (he0 : r.exp ≠ 0) (hen : r.exp <= now) (n0 : 0 <= now) (n1 : now <= 549755813888) :
    Calls prog 38 #[.pointer (some ⟨dp, 0, none⟩), .int .i64 now] w fun e w' => ∃ xb sb kb tb cb qb P Q R lv, e = .returned (.tuple #[.pointer (some ⟨xb, 0, none⟩), .int .i64 0]) /\ CaB w' xb sb kb 0 0 0 0 /\ StB w' sb tb cb qb dp 0 l lv none 2 now /\ Ix w' tb cb qb none 0 P Q R /\ S19.Sk .u8 w' kb (fun _ => 0) 0 /\
      w'.ownsRow w.heap.size 68 10 lv 1 (regC [reg1 l]) /\ w.heap.size <= sb /\ (∀ j, ixF P Q R j -> sb < j /\ j < kb) /\ (∀ g, lv.ownBlock = some g -> g < sb) /\ sb < kb /\ kb < xb /\ Below w.heap.size w w' := by
  have OP := hid (open1 T dp ib mb cap n D S wn l now r kn vn z w hd hT hf hfit h0 h1 hS hc hck hkd hkn hvn hz hz0 hst he0 hen n0 n1)
  clear hd hT hf hfit h0 h1 hS hc hck hst
  go_enter Tryz.func38, Tryz.ntmps38
  go_wp2_with fail
  with_reducible refine OP.out.mono ?_
  rintro e w1 ⟨sb, tb, cb, qb, P, Q, R, lv, rfl, hst, hix, hlv, hsb, hf1, hf2, hb⟩
  have BW := hid hb
  go_wp2_with fail
  with_reducible refine (S19.new6 _).mono ?_
  rintro e w2 ⟨rfl, hsk, hg⟩
  go_wp2_with fail
  have hb2 := below_grown hg
  have hb3 : Below w1.heap.size w1 (w2.alloc (.cells #[.pointer (some ⟨sb, 0, none⟩), .pointer (some ⟨w1.heap.size, 0, none⟩), .int .i64 0, .int .i64 0, .int .i64 0, .int .i64 0, .int .u32 0, .int .i32 0, .int .u32 0, .bool false, .int .i64 0] 135)) := hb2.alloc hb2.size _
  go_ret2
  refine ⟨w2.heap.size, sb, w1.heap.size, tb, cb, qb, P, Q, R, lv, rfl, nB w2 _, hst.below hb3, hix.fr (S := fun _ => False) (Fr.of_below hb3) (fun _ _ f => f), sk_below hsk ((Below.refl _ _).alloc (Nat.le_refl _) _), own_same hlv (fun g hg => hb3.block g (hlv.lt g hg).2), hsb, fun j hj => ⟨hf1 j hj, hix.lt j hj⟩, hf2, lB hst, World.block_lt_of_cell? _ _ hsk.2.1, tB BW.out hb3⟩
structure Ss2 (w : World) (T : Nat -> Int) (sb tb cb qb dp ib mb cap n : Nat) (D : DataW Nat) (S : List (List Int)) (wn : Nat) (l : Lay) (now : Int) (N : Nat) (P Q R : Nat -> Prop) (lv : Value) (col : Nat -> Nat) : Prop where
  sto : StB w sb tb cb qb dp 0 l lv none 2 now
  ix : Ix w tb cb qb none N P Q R
  dv : Dev w dp ib mb cap n D S wn
  ct : CrcT T w
  k0 : ∀ j, w.heap.size <= j -> col j = 0
  kz : col 0 = 0
  k1 : ∀ j, ixF P Q R j -> col j = 1
  k2 : ∀ j, devF dp ib mb j -> col j = 2
  k5 : col sb = 5
section
variable {w w' : World} {T : Nat -> Int} {xb kb sb tb cb qb dp ib mb cap n wn N : Nat} {g hi se rj : Int} {c : Nat -> Nat} {k : Nat} {D : DataW Nat} {S : List (List Int)} {l : Lay} {now : Int} {P Q R : Nat -> Prop} {lv : Value} {col : Nat -> Nat}
theorem Ss2.fr (h : Ss2 w T sb tb cb qb dp ib mb cap n D S wn l now N P Q R lv col) {F : Nat -> Prop} (hf : Fr F w w') (hF : ∀ j, F j -> col j = 0 /\ j ≠ 0) (hk : ∀ j, w'.heap.size <= j -> col j = 0) : Ss2 w' T sb tb cb qb dp ib mb cap n D S wn l now N P Q R lv col :=
  have hh : ∀ j c, col j = c -> c ≠ 0 -> ¬ F j := fun j c e hc hj => hc (e.symm.trans (hF j hj).1)
  ⟨h.sto.fr hf (hh _ _ h.k5 (by omega)), h.ix.fr hf (fun j hj => hh _ _ (h.k1 j hj) (by omega)), h.dv.fr hf (fun j hj => hh _ _ (h.k2 j hj) (by omega)), h.ct.fr hf (fun e => (hF 0 e).2 rfl), hk, h.kz, h.k1, h.k2, h.k5⟩
theorem Ss2.below (h : Ss2 w T sb tb cb qb dp ib mb cap n D S wn l now N P Q R lv col) (hb : Below w.heap.size w w') : Ss2 w' T sb tb cb qb dp ib mb cap n D S wn l now N P Q R lv col :=
  h.fr (F := fun _ => False) (.of_below hb) (fun _ f => f.elim) (fun j hj => h.k0 j (Nat.le_trans hb.size hj))
theorem Ss2.stepT (h : Ss2 w T sb tb cb qb dp ib mb cap n D S wn l now N P Q R lv col) (hs : TabStp w w' tb none N P) :
    ∃ P', Ss2 w' T sb tb cb qb dp ib mb cap n D S wn l now N P' Q R lv (paint w w' 1 col) /\ CStep w w' col (paint w w' 1 col) := by
  obtain ⟨P', t', f', n'⟩ := hs
  have ll := h.ix.lt
  have fx : Fr (ixF P Q R) w w' := f'.mono (fun j _ hj => .inl hj)
  have ne : ∀ j c, col j = c -> c ≠ 1 -> ¬ ixF P Q R j := fun j c e hc hj => hc (e.symm.trans (h.k1 j hj))
  have hx : Ix w' tb cb qb none N P' Q R := ⟨t', h.ix.c.frame f' (fun j hj hp => h.ix.pq j hp hj), h.ix.q.frame f' (fun j hj hp => h.ix.pr j hp hj),
    fun j hp hq => (n' j hp).elim (fun e => h.ix.pq j e hq) (fun e => by have := ll j (.inr (.inl hq)); omega), fun j hp hr => (n' j hp).elim (fun e => h.ix.pr j e hr) (fun e => by have := ll j (.inr (.inr hr)); omega), h.ix.qr⟩
  exact ⟨P', ⟨h.sto.fr fx (ne _ _ h.k5 (by omega)), hx, h.dv.fr fx (fun j hj => ne _ _ (h.k2 j hj) (by omega)), h.ct.fr fx (ne _ _ h.kz (by omega)), paint_out fx.size h.k0, (paint_old h.ct.lt).trans h.kz, paint_foot h.k1 h.ix.lt (fun j hj => by
    rcases hj with e | e | e
    · exact (n' j e).imp .inl id
    · exact .inl (.inr (.inl e))
    · exact .inl (.inr (.inr e))) hx.lt, paint_keep h.k2 h.dv.lt, (paint_old (lB h.sto)).trans h.k5⟩, CStep.paint fx (fun j hj => by rw [h.k1 j hj]; omega)⟩
theorem cas_g2 (hs : Ss2 w T sb tb cb qb dp ib mb cap n D S wn l now N P Q R lv col) (h : CaS w xb sb kb g hi se rj c k col) (hg : g + 1 <= 1000) : Ss2 (w.setCell ⟨xb, 2, none⟩ (.int .i64 (g + 1))) T sb tb cb qb dp ib mb cap n D S wn l now N P Q R lv col /\ CaS (w.setCell ⟨xb, 2, none⟩ (.int .i64 (g + 1))) xb sb kb (g + 1) hi se rj c k col /\ KStep w (w.setCell ⟨xb, 2, none⟩ (.int .i64 (g + 1))) xb kb col col := by
  have f := fS w xb 2 (.int .i64 (g + 1))
  refine ⟨hs.fr f (fun j hj => by rw [hj]; exact ⟨h.kx, by have := h.xp; omega⟩) (k0_mono hs.k0 f.size), ⟨uB h.ca _, sk_fr h.sk f (fun e => h.ne e.symm), h.c15, h.k640, h.kx, h.kk, h.ne, h.xp, h.kp, by have := h.gb; omega, h.hb, h.sb', h.nsx⟩, KStep.own f (fun j hj => .inl hj)⟩
theorem svalue2 (key : ByteArray) (h : Ss2 w T sb tb cb qb dp ib mb cap n D S wn l now N P Q R lv col) (hk : key.size <= 255) :
    Calls prog 150 #[.pointer (some ⟨sb, 0, none⟩), .string key] w fun e w' => ∃ P' col', e = .returned (.tuple #[.slice none 0 0, .bool false]) /\ Ss2 w' T sb tb cb qb dp ib mb cap n D S wn l now N P' Q R lv col' /\ CStep w w' col col' := by
  have hl := lB h.sto
  have EN := hid (sentry8 sb tb cb qb dp ib mb cap n D S wn 0 l lv none 2 now _ N P key w h.sto h.dv h.ix.t (by omega))
  have H := hid h
  clear h
  go_enter Tryz.func150, Tryz.ntmps150
  go_wp2_with fail
  with_reducible refine EN.out.mono ?_
  rintro e w1 ⟨b, x, rfl, ht1, hb1, hb0⟩
  cases b with
  | true => exact absurd (hb1 rfl) (by simp)
  | false =>
    obtain rfl := (hb0 rfl).2
    obtain ⟨P1, h1, c1⟩ := H.out.stepT ht1
    have FIN := hid (fun (W : World) (hW : Below w1.heap.size w1 W) => And.intro (h1.below hW) (c1.post hW))
    clear ht1 hb1 hb0 h1 c1
    unfold entV ent0
    go_wp2_with fail
    go_ret2
    exact ⟨_, _, rfl, FIN.out _ (bel_al1 _)⟩
theorem sget2 (key : ByteArray) (h : Ss2 w T sb tb cb qb dp ib mb cap n D S wn l now N P Q R lv col) (hk : key.size <= 255) :
    Calls prog 83 #[.pointer (some ⟨sb, 0, none⟩), .string key] w fun e w' => ∃ P' col', e = .returned (.tuple #[.slice none 0 0, .bool false]) /\ Ss2 w' T sb tb cb qb dp ib mb cap n D S wn l now N P' Q R lv col' /\ CStep w w' col col' := by
  have VA := hid (svalue2 key h hk)
  clear h
  go_enter Tryz.func83, Tryz.ntmps83
  go_wp2_with fail
  with_reducible refine VA.out.mono ?_
  rintro e w1 ⟨P1, col1, rfl, h1, c1⟩
  have FIN := hid (And.intro h1 c1)
  clear h1 c1
  go_wp2_with fail
  go_ret2
  exact ⟨_, _, rfl, FIN.out⟩
theorem cget2 (ka : Option Addr) (kn kc : Nat) (bs : List Int) (hs : Ss2 w T sb tb cb qb dp ib mb cap n D S wn l now N P Q R lv col) (h : CaS w xb sb kb g hi se rj c k col)
    (hk : Rd8 w ka kn kc bs) (k0 : 1 <= kn) (k1 : kn <= 255) (hka : Aside xb kb col ka) (g9 : g + 1 <= 1000) :
    Calls prog 24 #[.pointer (some ⟨xb, 0, none⟩), .slice ka kn kc] w fun e w' => ∃ P' c2 k2 col', e = .returned (.tuple #[.slice none 0 0, .bool false, .int .i64 0]) /\ Ss2 w' T sb tb cb qb dp ib mb cap n D S wn l now N P' Q R lv col' /\ CaS w' xb sb kb (g + 1) hi se rj c2 k2 col' /\ KStep w w' xb kb col col' := by
  have CKY := hid (ckey8 xb sb kb tb cb qb dp ib mb cap n D S wn g hi se rj 0 l lv none 2 now ka kn kc w h.ca hs.sto hs.dv k0 k1)
  obtain ⟨hh, hh0, hh1, hash⟩ := hkey8 ka kn kc bs w hk (by omega)
  have HH := hid (hash w.drew (hk.below (Below.refl _ _).drew (Nat.le_refl _)))
  have TO := hid (S19.touch7 kb hh c k w.drew hh0 hh1 (sk_below h.sk (Below.refl _ _).drew) h.c15 h.k640)
  unfold S19.NoRes at TO
  have hkl := hk.len
  have hl := h.lt.1
  have KX := hid (show ∀ W, Fr (fun j => j = kb) w W -> W.cell? ⟨xb, 0, none⟩ = some (.pointer (some ⟨sb, 0, none⟩)) /\ W.cell? ⟨xb, 1, none⟩ = some (.pointer (some ⟨kb, 0, none⟩)) from fun W hW =>
    have e := (hW.block xb h.lt.1 h.ne).trans h.ca
    ⟨qB e, qB e⟩)
  have K0 := hid (KX.out w.drew (Fr.refl _ _).drew)
  have HS := hid hs
  have HC := hid h
  have HK := hid hk
  have KA := hid hka
  obtain ⟨key, hkey⟩ : ∃ q, strOfNums bs = q := ⟨_, rfl⟩
  have HKS := hid (show key.size <= 255 by rw [<- hkey, nums_size]; omega)
  have HKEY := hid hkey
  clear hs h hk hka hkey hash hkl
  go_enter Tryz.func24, Tryz.ntmps24
  go_wp2_with fail
  with_reducible refine CKY.out.mono ?_
  rintro e x0 ⟨rfl, rfl⟩
  go_upto_region 4 with fail
  go_region_held3 (fun w' => w'.cell? ⟨xb, 0, none⟩ = some (.pointer (some ⟨sb, 0, none⟩)) /\ w'.cell? ⟨xb, 1, none⟩ = some (.pointer (some ⟨kb, 0, none⟩))) (first | with_reducible exact hS2 | with_reducible exact K0.out)
    (first
      | ((go_at_call 75); (with_reducible refine TO.out.mono ?_); (rintro e x2 ⟨rfl, sk2, gr2⟩); (have hG2 := (⟨gr2.os, gr2.tape, gr2.output, gr2.size, gr2.block⟩ : w.grownBy x2 (some kb))); (have hF2 := (cas_t HC.out sk2 hG2).2.2); (have hS2 := KX.out _ hF2))
      | ((go_at_call 74); (with_reducible refine HH.out.mono ?_); (rintro e x1 ⟨rfl, rfl⟩)))
  obtain ⟨ca2, ks2, -⟩ := cas_t HC.out sk2 hG2
  have s2 := HS.out.fr hF2 (fun j hj => by rw [hj]; exact ⟨HC.out.kk, by have := HC.out.kp; omega⟩) (k0_mono HS.out.k0 hF2.size)
  have A2 := hid (aadd8 xb 2 g x2 (qB (i := 2) ca2.ca) (zB (i := 2) ca2.ca) HC.out.gb.1 (by omega))
  obtain ⟨s3, ca3, ks3⟩ := cas_g2 s2 ca2 g9
  have hl2 := ca2.lt.1
  have S3 := hid s3
  have CA3 := hid ca3
  have KS3 := hid (ks2.trans ks3)
  clear sk2 gr2 hG2 hF2 hS2 ca2 ks2 s2 s3 ca3 ks3 TO HH CKY
  go_wp2_with fail
  with_reducible refine A2.out.mono ?_
  rintro e x3 ⟨rfl, hx3⟩
  rw [<- hx3] at S3 CA3 KS3
  clear hx3 A2
  have e0 : x3.cell? ⟨xb, 0, none⟩ = some (.pointer (some ⟨sb, 0, none⟩)) := qB (i := 0) CA3.out.ca
  have HK3 := hid (Aside.rd HK.out KA.out KS3.out)
  have CV := conv_bytes (HK3.out.below (Below.refl _ _).drew (Nat.le_refl _))
  rw [HKEY.out] at CV
  have GE := hid (sget2 key (S3.out.below (Below.refl _ _).drew) HKS.out)
  have K3 := hid (show ∀ W (col' : Nat -> Nat), CStep x3.drew W col col' -> W.cell? ⟨xb, 0, none⟩ = some (.pointer (some ⟨sb, 0, none⟩)) /\ (convert 33 9 (.slice ka kn kc)).run prog W = .ok (.string key) W from fun W col' hW => ⟨(hW.cell (b := xb) CA3.out.lt.1 CA3.out.kx 0).trans e0, HKEY.out ▸ conv_bytes (Aside.rd (HK3.out.below (Below.refl _ _).drew (Nat.le_refl _)) KA.out (KStep.of (xb := xb) (kb := kb) hW))⟩)
  have KD3 := hid (show x3.drew.cell? ⟨xb, 0, none⟩ = some (.pointer (some ⟨sb, 0, none⟩)) /\ (convert 33 9 (.slice ka kn kc)).run prog x3.drew = .ok (.string key) x3.drew from ⟨e0, CV⟩)
  clear CV
  have hl3 := CA3.out.lt.1
  go_upto_region 6 with fail
  go_region_held3 (fun w' => w'.cell? ⟨xb, 0, none⟩ = some (.pointer (some ⟨sb, 0, none⟩)) /\ (convert 33 9 (.slice ka kn kc)).run prog w' = .ok (.string key) w') (first | with_reducible exact hS4 | with_reducible exact KD3.out)
    (first
      | ((go_at_call 83); (with_reducible refine GE.out.mono ?_); (rintro e x4 ⟨P4, col4, rfl, s4, cs4⟩); (have hS4 := K3.out _ _ cs4)))
  have CS4 := hid ((CStep.below ((Below.refl x3.heap.size x3).drew)).trans cs4)
  have ca4 := CA3.out.step CS4.out
  have FIN := hid (And.intro s4 (And.intro ca4 (KS3.out.trans (KStep.of (xb := xb) (kb := kb) CS4.out))))
  clear s4 cs4 hS4 ca4 GE e0
  go_wp2_with fail
  go_ret3
  exact ⟨_, _, _, _, rfl, FIN.out⟩
end
end Go.Proofs.YtbikkioipamlmaaGreatDoor
namespace Go.Proofs.YtbikkioipamlmaaGreatDoor
open Classical Go.Maps Go.RowKit L21 T16 in
noncomputable def colF (I D : Nat -> Prop) (o : Option Nat) (sb : Nat) : Nat -> Nat := fun j => if I j then 1 else if D j then 2 else if o = some j then 4 else if j = sb then 5 else 0
theorem colF_0 {I D : Nat -> Prop} {o : Option Nat} {sb j : Nat} (h1 : ¬ I j) (h2 : ¬ D j) (h3 : o ≠ some j) (h4 : j ≠ sb) : colF I D o sb j = 0 := by unfold colF; rw [if_neg h1, if_neg h2, if_neg h3, if_neg h4]
theorem colF_1 {I D : Nat -> Prop} {o : Option Nat} {sb j : Nat} (h1 : I j) : colF I D o sb j = 1 := by unfold colF; rw [if_pos h1]
theorem colF_2 {I D : Nat -> Prop} {o : Option Nat} {sb j : Nat} (h1 : ¬ I j) (h2 : D j) : colF I D o sb j = 2 := by unfold colF; rw [if_neg h1, if_pos h2]
theorem colF_4 {I D : Nat -> Prop} {o : Option Nat} {sb j : Nat} (h1 : ¬ I j) (h2 : ¬ D j) (h3 : o = some j) : colF I D o sb j = 4 := by unfold colF; rw [if_neg h1, if_neg h2, if_pos h3]
theorem colF_5 {I D : Nat -> Prop} {o : Option Nat} {sb j : Nat} (h1 : ¬ I j) (h2 : ¬ D j) (h3 : o ≠ some j) (h4 : j = sb) : colF I D o sb j = 5 := by unfold colF; rw [if_neg h1, if_neg h2, if_neg h3, if_pos h4]
theorem col0 {w : World} {T : Nat -> Int} {sb tb cb qb dp ib mb cap n xb kb B : Nat} {D : DataW Nat} {S : List (List Int)} {wn : Nat} {l : Lay} {now : Int} {P Q R : Nat -> Prop} {lv : Value}
    (sto : StB w sb tb cb qb dp 0 l lv none 1 now) (ix : Ix w tb cb qb none 0 P Q R) (dv : Dev w dp ib mb cap n D S wn) (lr : w.ownsRow B 68 10 lv 0 []) (ct : CrcT T w) (ca : CaB w xb sb kb 0 0 0 0) (sk : S19.Sk .u8 w kb (fun _ => 0) 0)
    (hi : ∀ j, ixF P Q R j -> sb < j /\ j < kb) (ho : ∀ g, lv.ownBlock = some g -> g < sb) (h1 : sb < kb) (h2 : kb < xb) (hB : B <= sb) (hd : ∀ j, devF dp ib mb j -> 0 < j /\ j < B) :
    ∃ col, Ss0 w T sb tb cb qb dp ib mb cap n D S wn l now 0 P Q R lv col /\ CaS w xb sb kb 0 0 0 0 (fun _ => 0) 0 col /\ ∀ j, j < B -> ¬ devF dp ib mb j -> col j = 0 := by
  have hsz := lB sto
  have hxz := lB ca
  have hB0 : 0 < B := by have := hd dp (.inl rfl); omega
  have ob : ∀ g, lv.ownBlock = some g -> B <= g := fun g hg => (lr.lt g hg).1
  refine ⟨colF (ixF P Q R) (devF dp ib mb) lv.ownBlock sb, ⟨sto, ix, dv, own_mono lr (Nat.zero_le _), ct, ?_, ?_, ?_, ?_, ?_, ?_⟩, ⟨ca, sk, fun j => by omega, by omega, ?_, ?_, by omega, by omega, by omega, by omega, by omega, by omega, by omega⟩, ?_⟩
  · intro j hj
    exact colF_0 (fun h => by have := hi j h; omega) (fun h => by have := hd j h; omega) (fun h => by have := ho j h; omega) (by omega)
  · exact colF_0 (fun h => by have := hi 0 h; omega) (fun h => by have := hd 0 h; omega) (fun h => by have := ob 0 h; omega) (by omega)
  · intro j hj; exact colF_1 hj
  · intro j hj; exact colF_2 (fun h => by have := hi j h; have := hd j hj; omega) hj
  · intro g hg; exact colF_4 (fun h => by have := hi g h; have := ho g hg; omega) (fun h => by have := hd g h; have := ob g hg; omega) hg
  · exact colF_5 (fun h => by have := hi sb h; omega) (fun h => by have := hd sb h; omega) (fun h => by have := ho sb h; omega) rfl
  · exact colF_0 (fun h => by have := hi xb h; omega) (fun h => by have := hd xb h; omega) (fun h => by have := ho xb h; omega) (by omega)
  · exact colF_0 (fun h => by have := hi kb h; omega) (fun h => by have := hd kb h; omega) (fun h => by have := ho kb h; omega) (by omega)
  · intro j hj hn
    exact colF_0 (fun h => by have := hi j h; omega) hn (fun h => by have := ob j h; omega) (by omega)
end Go.Proofs.YtbikkioipamlmaaGreatDoor
namespace Go.Proofs.YtbikkioipamlmaaGreatDoor
open Go.RowKit
theorem and_bit (x : Int) : ∃ m : Nat, m <= 1 /\ bits .and .i64 x 1 = (m : Int) := by
  have h1 : (BitVec.ofInt 64 x &&& BitVec.ofInt 64 1).toNat <= 1 := by
    rw [BitVec.toNat_and]
    have : (BitVec.ofInt 64 1).toNat = 1 := by decide
    rw [this]
    exact Nat.and_le_right
  refine ⟨(BitVec.ofInt 64 x &&& BitVec.ofInt 64 1).toNat, h1, ?_⟩
  show IntKind.i64.wrap ((BitVec.ofInt 64 x &&& BitVec.ofInt 64 1).toNat : Nat) = _
  rw [IntWalk.i64_in _ ⟨by omega, by omega⟩]
theorem tmod3 (x : Int) : ∃ t m : Int, x.tmod 3 = t /\ (t + 3).tmod 3 = m /\ -2 <= t /\ t <= 2 /\ 0 <= m /\ m <= 2 := by
  have h1 : -2 <= x.tmod 3 /\ x.tmod 3 <= 2 := by
    have h := Int.tmod_lt_of_pos x (show (0 : Int) < 3 by omega)
    have h2 := Int.tmod_lt_of_pos (-x) (show (0 : Int) < 3 by omega)
    rw [Int.neg_tmod] at h2
    omega
  refine ⟨_, _, rfl, rfl, h1.1, h1.2, ?_⟩
  rw [Int.tmod_eq_emod_of_nonneg (by omega)]
  omega
def smallOk (l : Lay) : Prop := formB l = true /\ l.id = 1 /\ l.rs <= 8 /\ l.rg <= 6
theorem small_ok (a k m : Int) (h1 : 0 <= a) (h2 : a <= 1) (h3 : 0 <= k) (h4 : k <= 2) (h5 : 0 <= m) (h6 : m <= 2) : smallOk ⟨1, 1 + a, 2 * 2 ^ k.toNat, 4 + m⟩ := by
  have ha : a = 0 \/ a = 1 := by omega
  have hk : k = 0 \/ k = 1 \/ k = 2 := by omega
  have hm : m = 0 \/ m = 1 \/ m = 2 := by omega
  rcases ha with rfl | rfl <;> rcases hk with rfl | rfl | rfl <;> rcases hm with rfl | rfl | rfl <;> (unfold smallOk; decide +kernel)
theorem small8 (x y z : Int) (w : World) :
    Calls prog 8 #[.int .i64 x, .int .i64 y, .int .i64 z] w fun e w' => ∃ l : Lay, smallOk l /\ e = .returned (.agg #[.int .i64 l.id, .int .i64 l.ver, .int .i64 l.rs, .int .i64 l.rg]) /\ Below w.heap.size w w' := by
  obtain ⟨a, ha, hab⟩ := and_bit x
  obtain ⟨t, k, ht, hk, t0, t1, k0, k1⟩ := tmod3 y
  obtain ⟨u, m, hu, hm, u0, u1, m0, m1⟩ := tmod3 z
  have OK := hid (small_ok (a : Int) k m (by omega) (by omega) k0 k1 m0 m1)
  have HKW := hid (show wrap64 (2 * 2 ^ k.toNat) = 2 * 2 ^ k.toNat by
    have : k = 0 \/ k = 1 \/ k = 2 := by omega
    rcases this with rfl | rfl | rfl <;> decide +kernel)
  go_enter Tryz.func8, Tryz.ntmps8
  go_wp2_with fail
  refine bodyPost_ret (results_cell_row rfl _ _ w.heap.size _ _ _ _ rfl (nB w _) Tryz.underlying26 rfl (by kernel_rfl)) rfl ?_
  rw [HKW.out]
  exact ⟨⟨1, 1 + a, 2 * 2 ^ k.toNat, 4 + m⟩, OK.out, rfl, (Below.refl _ _).alloc (Nat.le_refl _) _⟩
end Go.Proofs.YtbikkioipamlmaaGreatDoor
