/-
  Laws and contracts for the statement TopExpired.
-/
import Derived.Deep.RegionHeld3
import Derived.Deep.DeepCutAuto
import Derived.Test.YtbikkioipamlmaaGreatDoorX04
open Go.Lib (hid)
open Go.Proofs.Tryz (prog)
set_option linter.unusedVariables false
set_option linter.unusedSimpArgs false
set_option maxRecDepth 100000
set_option maxHeartbeats 20000000
namespace Go.Proofs.YtbikkioipamlmaaGreatDoor
open Go.RowKit
theorem rchk8 (ver : Int) (r : Rec) (ka va : Option Addr) (kn kc vn vc : Nat) (w : World) (hc : recChk ver r = 0) (hk : r.key.length = kn) (hv : r.val.length = vn) :
    Calls prog 142 #[.int .i64 ver, recV r.kind r.exp ka kn kc va vn vc] w fun e w' => e = .returned (.int .i64 0) /\ Below w.heap.size w w' := by
  obtain ⟨hver, k1, k3, k255, v65, e0, e1, hn1, hk3, hkn⟩ := recChk_ok hc
  have LT := hid (fun W => latest8 ver W)
  have hlat : 0 <= latestD ver := by unfold latestD; split <;> omega
  obtain ⟨lat, hl⟩ : ∃ x, latestD ver = x := ⟨_, rfl⟩
  rw [hl] at LT e1 hlat
  obtain ⟨kind, key, val, exp⟩ := r
  simp only at *
  rw [hk] at k255 hkn
  rw [hv] at v65
  have HK : kind = 3 -> kn = 0 := fun e => by rw [<- hk, hk3 e]; rfl
  have HV : kind ≠ 1 -> vn = 0 /\ exp = 0 := fun e => ⟨by rw [<- hv, (hn1 e).1]; rfl, (hn1 e).2⟩
  have CS := hid (show ∀ x0 x1 x2 : Value, (w.alloc (.cells #[x0, x1, x2, .int .i64 exp] 161)).cell? ⟨w.heap.size, 3, none⟩ = some (.int .i64 exp) from fun x0 x1 x2 => qB (nB w _))
  clear hc hk hv hn1 hk3 hl
  have hkinds : (kind = 1 /\ 0 < kn) \/ (kind = 2 /\ 0 < kn /\ vn = 0 /\ exp = 0) \/ (kind = 3 /\ kn = 0 /\ vn = 0 /\ exp = 0) := by
    rcases (by omega : kind = 1 \/ kind = 2 \/ kind = 3) with h | h | h
    · exact .inl ⟨h, by have := hkn (by omega); omega⟩
    · exact .inr (.inl ⟨h, by have := hkn (by omega); omega, HV (by omega)⟩)
    · exact .inr (.inr ⟨h, HK h, HV (by omega)⟩)
  clear HK HV hkn k1 k3
  rcases hkinds with ⟨rfl, hkn⟩ | ⟨rfl, hkn, rfl, rfl⟩ | ⟨rfl, rfl, rfl, rfl⟩ <;> rcases hver with rfl | rfl
  all_goals
    (try have hd1 : decide (exp < 0) = false := by simp; omega)
    (try have hd2 : decide (lat < exp) = false := by simp; omega)
    (try have hd3 : decide (lat < 0) = false := by simp; omega)
    (try have hq : ((kn : Int) == 0) = false := by simp; omega)
    (try have hq2 : ¬ ((kn : Int) = 0) := by omega)
    go_enter Tryz.func142, Tryz.ntmps142
    go_upto_region 11 with fail
    first
      | (go_region_held3 (fun w' => w'.cell? ⟨w.heap.size, 3, none⟩ = some (.int .i64 exp)) (first | exact CS.out _ _ _) (first | ((go_at_call 208); (with_reducible refine (LT.out _).mono ?_); (rintro e w2 ⟨rfl, rfl⟩))))
      | (go_region_held3 (fun w' => w'.cell? ⟨w.heap.size, 3, none⟩ = some (.int .i64 0)) (first | exact CS.out _ _ _) (first | ((go_at_call 208); (with_reducible refine (LT.out _).mono ?_); (rintro e w2 ⟨rfl, rfl⟩))))
    go_wp2_with fail
    go_ret
    exact ⟨rfl, ((Below.refl _ _).alloc (Nat.le_refl _) _).drew⟩
theorem elems2 {w : World} {b : Nat} (hb : b = w.heap.size) (k : IntKind) (t : TypeId) (x0 x1 : Int) : Elems k (w.alloc (.cells #[.int k x0, .int k x1] t)) (some ⟨b, 0, none⟩) 2 [x0, x1] := hb ▸ elems_blk (nB w _) rfl rfl
theorem elems2o {w : World} {b : Nat} (hb : b = w.heap.size) (k : IntKind) (t : TypeId) (o : Obj) (x0 x1 : Int) : Elems k ((w.alloc (.cells #[.int k x0, .int k x1] t)).alloc o) (some ⟨b, 0, none⟩) 2 [x0, x1] := hb ▸ elems_blk (old_at (nB w _) _) rfl rfl
theorem elems_drew {k : IntKind} {w : World} {a : Option Addr} {n : Nat} {zs : List Int} (h : Elems k w a n zs) : Elems k w.drew a n zs := fun i hi => h i hi
theorem rows4b {w : World} {b : Nat} {t : TypeId} {a1 : Option Addr} {n1 c1 : Nat} {l1 : List Int} {a2 : Option Addr} {n2 c2 : Nat} {l2 : List Int} {a3 : Option Addr} {n3 c3 : Nat} {l3 : List Int} {a4 : Option Addr} {n4 c4 : Nat} {l4 : List Int} (hb : b = w.heap.size) (h1 : Rd8 w a1 n1 c1 l1) (h2 : Rd8 w a2 n2 c2 l2) (h3 : Rd8 w a3 n3 c3 l3) (h4 : Rd8 w a4 n4 c4 l4) :
    Rows8 (w.alloc (.cells #[.slice a1 n1 c1, .slice a2 n2 c2, .slice a3 n3 c3, .slice a4 n4 c4] t)) (some ⟨b, 0, none⟩) [l1, l2, l3, l4] := hb ▸ rows4 h1 h2 h3 h4
theorem rows3b {w : World} {b : Nat} {t : TypeId} {a1 : Option Addr} {n1 c1 : Nat} {l1 : List Int} {a2 : Option Addr} {n2 c2 : Nat} {l2 : List Int} {a3 : Option Addr} {n3 c3 : Nat} {l3 : List Int} (hb : b = w.heap.size) (h1 : Rd8 w a1 n1 c1 l1) (h2 : Rd8 w a2 n2 c2 l2) (h3 : Rd8 w a3 n3 c3 l3) :
    Rows8 (w.alloc (.cells #[.slice a1 n1 c1, .slice a2 n2 c2, .slice a3 n3 c3] t)) (some ⟨b, 0, none⟩) [l1, l2, l3] := hb ▸ rows3 h1 h2 h3
theorem concat8z (a : Option Addr) (n cap m : Nat) (ls : List (List Int)) (Q : List Int) (w : World) (hl : ls.length = n) (hn : n <= 1000) (hQ : ls.flatten = Q) (hm : Q.length = m) (ht : m <= 1099511627776) (h : Rows8 w a ls) :
    Calls prog 272 #[.slice a n cap] w fun e w' => ∃ a' c', e = .returned (.slice a' m c') /\ Own8 w.heap.size w' (.slice a' m c') Q /\ Rd8 w' a' m c' Q /\ Below w.heap.size w w' := by
  subst hQ hm
  refine (concat8 a n cap ls w hl hn h ht).mono ?_
  rintro e w' ⟨v, rfl, ho, hb⟩
  obtain ⟨a', c', rfl, hr⟩ := ho.rd
  exact ⟨a', c', rfl, ho, hr, hb⟩
theorem fields8z (a1 a2 : Option Addr) (n c1 c2 m : Nat) (Q : List Int) (fs : List (Int × Nat)) (zs ws : List Int) (w : World) (e1 : zs = fs.map Prod.fst) (e2 : ws = fs.map (fun p => (p.2 : Int))) (hn : fs.length = n) (hn1 : 1 <= n) (hn9 : n <= 20)
    (hf : ∀ p ∈ fs, 0 <= p.1 /\ p.1 < 9223372036854775808 /\ 1 <= p.2 /\ p.2 <= 8) (hQ : fieldsL fs = Q) (hm : Q.length = m) (h1 : Elems .i64 w a1 n zs) (h2 : Elems .i64 w a2 n ws) :
    Calls prog 273 #[.slice none 0 0, .slice a1 n c1, .slice a2 n c2] w fun e w' => ∃ a' c', e = .returned (.slice a' m c') /\ Own8 w.heap.size w' (.slice a' m c') Q /\ Rd8 w' a' m c' Q /\ Below w.heap.size w w' := by
  subst hQ hm e1 e2
  refine (fields8 none a1 a2 0 n 0 c1 c2 [] fs w (.nilv w) (by omega) hn hn1 hn9 h1 h2 hf).mono ?_
  rintro e w' ⟨v, rfl, ho, hb⟩
  obtain ⟨a', c', rfl, hr⟩ := ho.rd
  exact ⟨a', c', rfl, ho, hr, hb⟩
theorem renc8 (T : Nat -> Int) (ver seq off : Int) (r : Rec) (ka va : Option Addr) (kn kc vn vc : Nat) (w : World) (hc : recChk ver r = 0) (hT : CrcT T w) (hk : Rd8 w ka kn kc r.key) (hv : Rd8 w va vn vc r.val)
    (s0 : 0 <= seq) (s1 : seq < 9223372036854775808) (o0 : 0 <= off) (o1 : off <= 2147483647) :
    Calls prog 199 #[.int .i64 ver, .int .i64 seq, .int .i64 off, recV r.kind r.exp ka kn kc va vn vc] w fun e w' => ∃ a' c', e = .returned (.tuple #[.slice a' (16 + kn + vn) c', .int .i64 0]) /\ Own8 w.heap.size w' (.slice a' (16 + kn + vn) c') (recE T ver seq off r) /\ Below w.heap.size w w' := by
  obtain ⟨hver, k1, k3, k255, v65, e0, e1, hn1, hk3, hkn⟩ := recChk_ok hc
  have hkl := hk.len
  have hvl := hv.len
  have hhl := recH_length ver r
  have CK := hid (fun W => rchk8 ver r ka va kn kc vn vc W hc hkl hvl)
  have HH := hid (fun W => rhead8 ver r ka va kn kc vn vc W hc hkl hvl)
  rw [hkl] at k255
  rw [hvl] at v65
  have FL := hid (fun (W : World) (a1 a2 : Option Addr) => fields8z a1 a2 2 2 2 12 (beN seq 8 ++ beN off 4) [(seq, 8), (off, 4)] [seq, off] [8, 4] W rfl rfl rfl (by omega) (by omega) (by
    intro p hp; simp only [List.mem_cons, List.not_mem_nil, or_false] at hp; rcases hp with rfl | rfl <;> simp only <;> omega) (by simp [fieldsL]) (by simp [bL]))
  have C4 := hid (fun (W : World) (a : Option Addr) => concat8z a 4 4 (24 + kn + vn) [beN seq 8 ++ beN off 4, recH ver r, r.key, r.val] ((beN seq 8 ++ beN off 4) ++ (recH ver r ++ (r.key ++ r.val))) W rfl (by omega) (by simp) (by simp only [List.length_append, bL, hhl, hkl, hvl]; omega) (by omega))
  obtain ⟨sm, hsm⟩ : ∃ sm, recSum T seq off (recH ver r) r = sm := ⟨_, rfl⟩
  have hsr := crcU_rng T 0 ((beN seq 8 ++ beN off 4) ++ (recH ver r ++ (r.key ++ r.val)))
  rw [show crcU T 0 ((beN seq 8 ++ beN off 4) ++ (recH ver r ++ (r.key ++ r.val))) = sm from hsm] at hsr
  have hwz : IntKind.u64.wrap sm = sm := by simp [IntKind.wrap, IntKind.bits, IntKind.signed]; omega
  have SM := hid (fun (W : World) (a : Option Addr) (cap : Nat) (hW : CrcT T W) (hr : Rd8 W a (24 + kn + vn) cap ((beN seq 8 ++ beN off 4) ++ (recH ver r ++ (r.key ++ r.val)))) =>
    (sum8 T a (24 + kn + vn) cap _ W hW hr (by omega)).mono (fun e w' h => (show e = .returned (.int .u32 sm) /\ W = w' from ⟨by rw [h.1]; exact congrArg (fun z => Ending.returned (.int .u32 z)) hsm, h.2⟩)))
  have C3 := hid (fun (W : World) (a : Option Addr) => concat8z a 3 3 (16 + kn + vn) [recH ver r ++ beN sm 4, r.key, r.val] (recE T ver seq off r) W rfl (by omega) (by simp [recE, hsm]) (by rw [recE_length, hkl, hvl]) (by omega))
  have PT := hid (fun (W : World) (a : Option Addr) (cap : Nat) (hr : Rd8 W a 12 cap (recH ver r)) => put8z a 12 cap (recH ver r) sm 4 4 16 W hr (by omega) hsr.1 (by omega) (by omega) (by omega) rfl rfl)
  have RK := hid hk
  have RV := hid hv
  have HT := hid hT
  have HHL := hid hhl
  obtain ⟨kind, key, val, exp⟩ := r
  simp only at *
  clear hc hT hk hv hkl hvl hhl hsm hn1 hk3 hkn
  go_enter Tryz.func199, Tryz.ntmps199
  go_wp2_with fail
  with_reducible refine (CK.out _).mono ?_
  rintro e w1 ⟨rfl, hb1⟩
  obtain ⟨hb1, hblk⟩ := bel1x hb1
  have g0 := lB hblk
  have c0 : w1.cell? ⟨w.heap.size, 0, none⟩ = some (.int .i64 kind) := qB hblk
  have c1 : w1.cell? ⟨w.heap.size, 1, none⟩ = some (.slice ka kn kc) := qB hblk
  have c2 : w1.cell? ⟨w.heap.size, 2, none⟩ = some (.slice va vn vc) := qB hblk
  have c3 : w1.cell? ⟨w.heap.size, 3, none⟩ = some (.int .i64 exp) := qB hblk
  have B1 := hid hb1
  clear hb1 hblk
  go_wp2_with fail
  with_reducible refine (HH.out _).mono ?_
  rintro e w2 ⟨v, rfl, ho2, hb2⟩
  obtain ⟨a2, q2, rfl, hr2⟩ := ho2.rd
  rw [HHL.out] at hr2 ⊢
  have B2 := hid (tB B1.out hb2)
  have R2 := hid hr2
  have d1 := ((bcell hb2).1 _ 1 g0).trans c1
  have d2 := ((bcell hb2).1 _ 2 g0).trans c2
  have hg2 : w.heap.size < w2.heap.size := Nat.lt_of_lt_of_le g0 hb2.size
  have KB := hid (show ∀ W, Below w2.heap.size w2 W -> W.cell? ⟨w.heap.size, 1, none⟩ = some (.slice ka kn kc) /\ W.cell? ⟨w.heap.size, 2, none⟩ = some (.slice va vn vc) from fun W hW => ⟨((bcell hW).1 _ _ hg2).trans d1, ((bcell hW).1 _ _ hg2).trans d2⟩)
  have KB0 := hid (KB.out _ (Below.refl _ _).drew)
  have KB1 := hid (fun o : Obj => KB.out (w2.alloc o).drew (((Below.refl _ _).alloc (Nat.le_refl _) _).drew))
  have KB2 := hid (fun o o' : Obj => KB.out ((w2.alloc o).alloc o').drew ((((Below.refl _ _).alloc (Nat.le_refl _) _).alloc (by simp) _).drew))
  clear hb2 ho2 hr2 c0 c1 c2 c3 d1 d2
  have FLa := hid (FL.out (((w2.alloc (.cells #[.int .i64 seq, .int .i64 off] 3)).alloc (.cells #[.int .i64 8, .int .i64 4] 3)).drew) _ _ (elems_drew (elems2o rfl .i64 3 _ seq off)) (elems_drew (elems2 (has1 _ _) .i64 3 8 4)))
  have FLb := hid (FL.out (((w2.alloc (.cells #[.int .i64 8, .int .i64 4] 3)).alloc (.cells #[.int .i64 seq, .int .i64 off] 3)).drew) _ _ (elems_drew (elems2 (has1 _ _) .i64 3 seq off)) (elems_drew (elems2o rfl .i64 3 _ 8 4)))
  have KT := hid (show ∀ W, Below w2.heap.size w2 W -> CrcT T W from fun W hW => HT.out.below (tB B2.out hW) HT.out.lt)
  have KK := hid (show ∀ W, Below w2.heap.size w2 W -> Rd8 W ka kn kc key /\ Rd8 W va vn vc val /\ Rd8 W a2 12 q2 (recH ver ⟨kind, key, val, exp⟩) from fun W hW => ⟨RK.out.below (tB B2.out hW) (Nat.le_refl _), RV.out.below (tB B2.out hW) (Nat.le_refl _), R2.out.below hW (Nat.le_refl _)⟩)
  clear FL
  go_upto_region 7 with fail
  go_cut [12] (fun v12 wx => v12 = .int .u32 sm /\ Below w2.heap.size w2 wx)
  case first =>
    go_region_held3 (fun w' => w'.cell? ⟨w.heap.size, 1, none⟩ = some (.slice ka kn kc) /\ w'.cell? ⟨w.heap.size, 2, none⟩ = some (.slice va vn vc)) (first | exact KB0.out | exact KB1.out _ | exact KB2.out _ _ | exact hS4 | exact hS3 | exact hS2 _ | exact hS1)
      (first
        | ((go_at_call 273); (with_reducible refine (FLa.out).mono ?_); (rintro e w3 ⟨a3, c3, rfl, _, hr3, hb3⟩); (have hB3 := (bel1x (bel1x (bidd hb3)).1).1); (have hK3 := KK.out _ hB3); (have hS1 := KB.out _ hB3); (have hS2 := fun o : Obj => KB.out (w3.alloc o) (hB3.alloc hB3.size _)))
        | ((go_at_call 273); (with_reducible refine (FLb.out).mono ?_); (rintro e w3 ⟨a3, c3, rfl, _, hr3, hb3⟩); (have hB3 := (bel1x (bel1x (bidd hb3)).1).1); (have hK3 := KK.out _ hB3); (have hS1 := KB.out _ hB3); (have hS2 := fun o : Obj => KB.out (w3.alloc o) (hB3.alloc hB3.size _)))
        | ((go_at_call 272); (with_reducible refine (C4.out _ _ (rows4b rfl hr3 hK3.2.2 hK3.1 hK3.2.1)).mono ?_); (rintro e w4 ⟨a4, c4, rfl, _, hr4, hb4⟩); (have hB4 := tB hB3 (bel1x hb4).1); (have hS3 := KB.out _ hB4); (have hT4 := KT.out _ hB4))
        | ((go_at_call 271); (with_reducible refine (SM.out _ _ _ hT4 hr4).mono ?_); (rintro e w5 ⟨rfl, rfl⟩)))
    all_goals
      go_wp2_with fail
      go_meet
      exact ⟨rfl, hB4⟩
  case rest =>
    obtain ⟨rfl, hb6⟩ := hcut
    have B6 := hid hb6
    have KS0 := hid (KB.out _ hb6.drew)
    have PT6 := hid (PT.out _ a2 q2 (KK.out _ hb6.drew).2.2)
    clear hb6 PT
    go_wp2_with fail
    go_region_held3 (fun w' => w'.cell? ⟨w.heap.size, 1, none⟩ = some (.slice ka kn kc) /\ w'.cell? ⟨w.heap.size, 2, none⟩ = some (.slice va vn vc)) (first | exact KS0.out | exact hS3 | exact hS2 _ | exact hS1)
      (first
        | ((go_at_call 232); (with_reducible refine (PT6.out).mono ?_); (rintro e w3 ⟨a3, c3, rfl, _, hr3, hb3⟩); (have hB3 := tB B6.out (bidd hb3)); (have hK3 := KK.out _ hB3); (have hS1 := KB.out _ hB3); (have hS2 := fun o : Obj => KB.out (w3.alloc o) (hB3.alloc hB3.size _)))
        | ((go_at_call 272); (with_reducible refine (C3.out _ _ (rows3b rfl hr3 hK3.1 hK3.2.1)).mono ?_); (rintro e w4 ⟨a4, c4, rfl, ho4, _, hb4⟩); (have hB4 := tB hB3 (bel1x hb4).1); (have hS3 := KB.out _ hB4)))
    go_wp2_with fail
    go_ret2
    exact ⟨a4, c4, rfl, ho4.mono (by have := B2.out.size; have := hB3.size; simp; omega), tB B2.out hB4⟩
end Go.Proofs.YtbikkioipamlmaaGreatDoor
