/-
  Laws and contracts for the statement TopExpired.
-/
import Derived.Test.YtbikkioipamlmaaGreatDoorX21
import Derived.Test.YtbikkioipamlmaaGreatDoorX26
open Go.Lib (hid)
open Go.Proofs.Tryz (prog)
set_option linter.unusedVariables false
set_option linter.unusedSimpArgs false
set_option maxRecDepth 100000
set_option maxHeartbeats 20000000
namespace Go.Proofs.YtbikkioipamlmaaGreatDoor
open Go.Maps Go.RowKit L21 T16
theorem own_sl0 {w : World} {B : Nat} {e : TypeId} {size : Nat} {v : Value} {xs : List Value} (h : w.ownsRow B e size v 0 xs) : ∃ a c, v = .slice a 0 c := by
  rcases h.2 with ⟨rfl, _⟩ | ⟨g, cap, cur, rfl, _⟩
  · exact ⟨none, 0, rfl⟩
  · exact ⟨_, _, rfl⟩
theorem stable8c (sb : Nat) (w : World) (c8 : w.cell? ⟨sb, 8, none⟩ = some (.int .i64 1)) : Calls prog 145 #[.pointer (some ⟨sb, 0, none⟩)] w fun e w' => e = .returned (.bool true) /\ w = w' := by
  have hl : sb < w.heap.size := World.block_lt_of_cell? _ _ c8
  go_enter Tryz.func145, Tryz.ntmps145
  go_wp2_with fail
  go_ret
  exact ⟨rfl, rfl⟩
theorem open0 (T : Nat -> Int) (dp ib mb cap n : Nat) (D : DataW Nat) (S : List (List Int)) (wn : Nat) (l : Lay) (now : Int) (w : World) (hd : Dev w dp ib mb cap n D S wn) (hT : CrcT T w) (hf : formB l = true) (hfit : fitsB l (S.length : Int) = true) (h0 : S[0]? = some (List.replicate 64 0)) (h1 : S[1]? = some (supE (crcF T) 1 (sup0 l)))
    (hS : 74 + l.rg.toNat * l.rs.toNat <= S.length) (hc : candL (crcF T) S l l.rg.toNat = []) (n0 : 0 <= now) (n1 : now <= 549755813888) :
    Calls prog 101 #[.pointer (some ⟨dp, 0, none⟩), .int .i64 now] w fun e w' => ∃ sb tb cb qb P Q R lv, e = .returned (.tuple #[.pointer (some ⟨sb, 0, none⟩), .int .i64 0]) /\ StB w' sb tb cb qb dp 0 l lv none 1 now /\ Ix w' tb cb qb none 0 P Q R /\
      w'.ownsRow w.heap.size 68 10 lv 0 [] /\ w.heap.size <= sb /\ (∀ j, ixF P Q R j -> sb < j) /\ (∀ g, lv.ownBlock = some g -> g < sb) /\ Below w.heap.size w w' := by
  have RL := hid (recl0 T dp ib mb cap n D S wn l now w hd hT hf hfit h0 h1 hS hc n0 n1)
  clear hd hT hf hfit h0 h1 hS hc
  go_enter Tryz.func101, Tryz.ntmps101
  go_wp2_with fail
  with_reducible refine RL.out.mono ?_
  rintro e w1 ⟨pv, rv, rfl, hrv, hpv, hb⟩
  obtain ⟨pa, pc, rfl⟩ := own_sl0 hpv
  obtain ⟨ra, rc, rfl⟩ := own_sl0 hrv
  have RV := hid hrv
  have PV := hid hpv
  have B1 := hid hb
  clear hrv hpv hb RL
  iterate 14 (first | go_values | go_skip | go_guarded | go_step | go_upon | go_back | go_simp)
  refine wpList_store_row rfl 62 (.tmp 6) (.tmp 15) rfl w1.heap.size #[.int .i64 1, .int .i64 1, .int .i64 0, .int .i64 1, .int .i64 0, .int .i64 l.id, .int .i64 l.ver, .int .i64 l.rs, .int .i64 l.rg, .int .i64 0, .int .i64 0, .int .i64 0, .int .i64 0, .slice none 0 0, .slice ra 0 rc, .int .i64 1, .int .i64 1, .int .i64 now, .int .i64 0, .slice pa 0 pc] rfl rfl 62 _ (nB w1 _) (by kernel_rfl) rfl (by simp [Value.oneCell']) ?_
  rw [World.setRow_alloc_new]
  obtain ⟨w2, hw2⟩ : ∃ w2, w1.alloc (.cells #[.int .i64 1, .int .i64 1, .int .i64 0, .int .i64 1, .int .i64 0, .int .i64 l.id, .int .i64 l.ver, .int .i64 l.rs, .int .i64 l.rg, .int .i64 0, .int .i64 0, .int .i64 0, .int .i64 0, .slice none 0 0, .slice ra 0 rc, .int .i64 1, .int .i64 1, .int .i64 now, .int .i64 0, .slice pa 0 pc] 62) = w2 := ⟨_, rfl⟩
  have HS2 := hid (show w2.heap[w1.heap.size]? = some (.cells #[.int .i64 1, .int .i64 1, .int .i64 0, .int .i64 1, .int .i64 0, .int .i64 l.id, .int .i64 l.ver, .int .i64 l.rs, .int .i64 l.rg, .int .i64 0, .int .i64 0, .int .i64 0, .int .i64 0, .slice none 0 0, .slice ra 0 rc, .int .i64 1, .int .i64 1, .int .i64 now, .int .i64 0, .slice pa 0 pc] 62 (0, 0)) by rw [<- hw2]; exact nB w1 _)
  have B12 := hid (show Below w1.heap.size w1 w2 by rw [<- hw2]; exact (Below.refl _ _).alloc (Nat.le_refl _) _)
  rw [hw2]
  clear hw2
  have s0 := qB (i := 0) HS2.out
  have s1 := qB (i := 1) HS2.out
  have s2 := qB (i := 2) HS2.out
  have s3 := qB (i := 3) HS2.out
  have s4 := qB (i := 4) HS2.out
  have s5 := qB (i := 5) HS2.out
  have s6 := qB (i := 6) HS2.out
  have s7 := qB (i := 7) HS2.out
  have s8 := qB (i := 8) HS2.out
  have s9 := qB (i := 9) HS2.out
  have s10 := qB (i := 10) HS2.out
  have s11 := qB (i := 11) HS2.out
  have s12 := qB (i := 12) HS2.out
  have s13 := qB (i := 13) HS2.out
  have s14 := qB (i := 14) HS2.out
  have s15 := qB (i := 15) HS2.out
  have s16 := qB (i := 16) HS2.out
  have s17 := qB (i := 17) HS2.out
  have s18 := qB (i := 18) HS2.out
  have s19 := qB (i := 19) HS2.out
  go_wp2_with fail
  obtain ⟨w3, hw3⟩ : ∃ w3, w2.alloc (.cells #[.pointer none, .pointer none, .pointer none, .int .i64 0, .int .i64 0, .pointer (some ⟨dp, 0, none⟩), .bool false, .int .i64 1, .int .i64 1, .int .i64 0, .int .i64 1, .int .i64 0, .int .i64 l.id, .int .i64 l.ver, .int .i64 l.rs, .int .i64 l.rg, .int .i64 0, .int .i64 0, .int .i64 0, .int .i64 0, .slice none 0 0, .slice ra 0 rc, .pointer none, .int .i64 1, .int .i64 now, .int .i64 0] 223) = w3 := ⟨_, rfl⟩
  have HB3 := hid (show w3.heap[w2.heap.size]? = some (.cells #[.pointer none, .pointer none, .pointer none, .int .i64 0, .int .i64 0, .pointer (some ⟨dp, 0, none⟩), .bool false, .int .i64 1, .int .i64 1, .int .i64 0, .int .i64 1, .int .i64 0, .int .i64 l.id, .int .i64 l.ver, .int .i64 l.rs, .int .i64 l.rg, .int .i64 0, .int .i64 0, .int .i64 0, .int .i64 0, .slice none 0 0, .slice ra 0 rc, .pointer none, .int .i64 1, .int .i64 now, .int .i64 0] 223 (0, 0)) by rw [<- hw3]; exact nB w2 _)
  have B23 := hid (show Below w2.heap.size w2 w3 by rw [<- hw3]; exact (Below.refl _ _).alloc (Nat.le_refl _) _)
  have hs3 : w3.heap.size = w2.heap.size + 1 := by rw [<- hw3]; simp
  have hs2 : w1.heap.size < w2.heap.size := lB HS2.out
  have HS3 := hid hs3
  rw [hw3]
  have IE := hid (iempty8 w2.heap.size _ _ w3 HB3.out (by simp))
  clear hw3 hs3 s0 s1 s2 s3 s4 s5 s6 s7 s8 s9 s10 s11 s12 s13 s14 s15 s16 s17 s18 s19
  with_reducible refine (stable8c _ _ (qB HB3.out)).mono ?_
  rintro e w4 ⟨rfl, rfl⟩
  have hl3 : w2.heap.size < w3.heap.size := lB HB3.out
  go_wp2_with fail
  with_reducible refine IE.out.mono ?_
  rintro e w5 ⟨rfl, tb, cb, qb, P, Q, R, ix, nw, f5, hb5⟩
  have IX := hid ix
  have NW := hid nw
  have F5 := hid f5
  have HB5 := hid hb5
  have HS5 := hid ((f5.block w1.heap.size (Nat.lt_trans hs2 hl3) (by omega)).trans ((B23.out.block w1.heap.size hs2).trans HS2.out))
  have s19 := qB (i := 19) HS5.out
  have RV5 := hid (own_fr (own_same (own_same RV.out (fun g hg => B12.out.block g (RV.out.lt g hg).2)) (fun g hg => B23.out.block g (Nat.lt_of_lt_of_le (RV.out.lt g hg).2 B12.out.size))) f5 (fun g hg e => by have h1 := (RV.out.lt g hg).2; omega))
  have BW3 := hid (tB (tB B1.out B12.out) B23.out)
  have hw12 := B1.out.size
  have BW5 := hid (show Below w.heap.size w w5 from BW3.out.trans ⟨f5.os, f5.tape, f5.output, f5.size, fun k hk => f5.block k (by have := BW3.out.size; omega) (by omega)⟩)
  clear ix nw f5 hb5
  go_wp2_with fail
  go_loopw [51] (fun i wr => i = .int .i64 0 /\ wr = w5) (fun _ _ => 0)
  case atStart => exact ⟨rfl, rfl⟩
  case round =>
    obtain ⟨rfl, rfl⟩ := hrel
    go_wp2_with fail
    go_ret2
    exact ⟨w2.heap.size, tb, cb, qb, P, Q, R, _, rfl, HB5.out, IX.out, RV5.out, by omega, fun j hj => by have h1 := NW.out j hj; have h2 := HS3.out; omega, fun g hg => by have h1 := (RV.out.lt g hg).2; omega, BW5.out⟩
theorem own_sl1 {w : World} {B : Nat} {e : TypeId} {size : Nat} {v : Value} {xs : List Value} (h : w.ownsRow B e size v 1 xs) : ∃ a c, v = .slice a 1 c := by
  rcases h.2 with ⟨rfl, h0⟩ | ⟨g, cap, cur, rfl, _⟩
  · omega
  · exact ⟨_, _, rfl⟩
theorem open1 (T : Nat -> Int) (dp ib mb cap n : Nat) (D : DataW Nat) (S : List (List Int)) (wn : Nat) (l : Lay) (now : Int) (r : Rec) (kn vn z : Nat) (w : World) (hd : Dev w dp ib mb cap n D S wn) (hT : CrcT T w) (hf : formB l = true) (hfit : fitsB l (S.length : Int) = true) (h0 : S[0]? = some (List.replicate 64 0)) (h1 : S[1]? = some (supE (crcF T) 1 (sup0 l)))
    (hS : 74 + l.rg.toNat * l.rs.toNat <= S.length) (hc : candL (crcF T) S l l.rg.toNat = [reg1 l]) (hck : recChk l.ver r = 0) (hkd : r.kind = 1) (hkn : r.key.length = kn) (hvn : r.val.length = vn) (hz : 16 + kn + vn + z = 59) (hz0 : 0 < z) (hst : strF (crcF T) S 1 (74 + 1) (l.rs.toNat - 1) = recE T l.ver 1 0 r ++ List.replicate z 0) (he0 : r.exp ≠ 0) (hen : r.exp <= now) (n0 : 0 <= now) (n1 : now <= 549755813888) :
    Calls prog 101 #[.pointer (some ⟨dp, 0, none⟩), .int .i64 now] w fun e w' => ∃ sb tb cb qb P Q R lv, e = .returned (.tuple #[.pointer (some ⟨sb, 0, none⟩), .int .i64 0]) /\ StB w' sb tb cb qb dp 0 l lv none 2 now /\ Ix w' tb cb qb none 0 P Q R /\
      w'.ownsRow w.heap.size 68 10 lv 1 (regC [reg1 l]) /\ w.heap.size <= sb /\ (∀ j, ixF P Q R j -> sb < j) /\ (∀ g, lv.ownBlock = some g -> g < sb) /\ Below w.heap.size w w' := by
  have RL := hid (recl1 T dp ib mb cap n D S wn l now r kn vn z w hd hT hf hfit h0 h1 hS hc hck hkd hkn hvn hz hz0 hst he0 hen n0 n1)
  clear hd hT hf hfit h0 h1 hS hc hck hst
  go_enter Tryz.func101, Tryz.ntmps101
  go_wp2_with fail
  with_reducible refine RL.out.mono ?_
  rintro e w1 ⟨pv, rv, rfl, hrv, hpv, hb⟩
  obtain ⟨pa, pc, rfl⟩ := own_sl0 hpv
  obtain ⟨ra, rc, rfl⟩ := own_sl1 hrv
  have RV := hid hrv
  have PV := hid hpv
  have B1 := hid hb
  clear hrv hpv hb RL
  iterate 14 (first | go_values | go_skip | go_guarded | go_step | go_upon | go_back | go_simp)
  refine wpList_store_row rfl 62 (.tmp 6) (.tmp 15) rfl w1.heap.size #[.int .i64 1, .int .i64 1, .int .i64 0, .int .i64 1, .int .i64 0, .int .i64 l.id, .int .i64 l.ver, .int .i64 l.rs, .int .i64 l.rg, .int .i64 0, .int .i64 0, .int .i64 0, .int .i64 0, .slice none 0 0, .slice ra 1 rc, .int .i64 1, .int .i64 2, .int .i64 now, .int .i64 0, .slice pa 0 pc] rfl rfl 62 _ (nB w1 _) (by kernel_rfl) rfl (by simp [Value.oneCell']) ?_
  rw [World.setRow_alloc_new]
  obtain ⟨w2, hw2⟩ : ∃ w2, w1.alloc (.cells #[.int .i64 1, .int .i64 1, .int .i64 0, .int .i64 1, .int .i64 0, .int .i64 l.id, .int .i64 l.ver, .int .i64 l.rs, .int .i64 l.rg, .int .i64 0, .int .i64 0, .int .i64 0, .int .i64 0, .slice none 0 0, .slice ra 1 rc, .int .i64 1, .int .i64 2, .int .i64 now, .int .i64 0, .slice pa 0 pc] 62) = w2 := ⟨_, rfl⟩
  have HS2 := hid (show w2.heap[w1.heap.size]? = some (.cells #[.int .i64 1, .int .i64 1, .int .i64 0, .int .i64 1, .int .i64 0, .int .i64 l.id, .int .i64 l.ver, .int .i64 l.rs, .int .i64 l.rg, .int .i64 0, .int .i64 0, .int .i64 0, .int .i64 0, .slice none 0 0, .slice ra 1 rc, .int .i64 1, .int .i64 2, .int .i64 now, .int .i64 0, .slice pa 0 pc] 62 (0, 0)) by rw [<- hw2]; exact nB w1 _)
  have B12 := hid (show Below w1.heap.size w1 w2 by rw [<- hw2]; exact (Below.refl _ _).alloc (Nat.le_refl _) _)
  rw [hw2]
  clear hw2
  have s0 := qB (i := 0) HS2.out
  have s1 := qB (i := 1) HS2.out
  have s2 := qB (i := 2) HS2.out
  have s3 := qB (i := 3) HS2.out
  have s4 := qB (i := 4) HS2.out
  have s5 := qB (i := 5) HS2.out
  have s6 := qB (i := 6) HS2.out
  have s7 := qB (i := 7) HS2.out
  have s8 := qB (i := 8) HS2.out
  have s9 := qB (i := 9) HS2.out
  have s10 := qB (i := 10) HS2.out
  have s11 := qB (i := 11) HS2.out
  have s12 := qB (i := 12) HS2.out
  have s13 := qB (i := 13) HS2.out
  have s14 := qB (i := 14) HS2.out
  have s15 := qB (i := 15) HS2.out
  have s16 := qB (i := 16) HS2.out
  have s17 := qB (i := 17) HS2.out
  have s18 := qB (i := 18) HS2.out
  have s19 := qB (i := 19) HS2.out
  go_wp2_with fail
  obtain ⟨w3, hw3⟩ : ∃ w3, w2.alloc (.cells #[.pointer none, .pointer none, .pointer none, .int .i64 0, .int .i64 0, .pointer (some ⟨dp, 0, none⟩), .bool false, .int .i64 1, .int .i64 1, .int .i64 0, .int .i64 1, .int .i64 0, .int .i64 l.id, .int .i64 l.ver, .int .i64 l.rs, .int .i64 l.rg, .int .i64 0, .int .i64 0, .int .i64 0, .int .i64 0, .slice none 0 0, .slice ra 1 rc, .pointer none, .int .i64 2, .int .i64 now, .int .i64 0] 223) = w3 := ⟨_, rfl⟩
  have HB3 := hid (show w3.heap[w2.heap.size]? = some (.cells #[.pointer none, .pointer none, .pointer none, .int .i64 0, .int .i64 0, .pointer (some ⟨dp, 0, none⟩), .bool false, .int .i64 1, .int .i64 1, .int .i64 0, .int .i64 1, .int .i64 0, .int .i64 l.id, .int .i64 l.ver, .int .i64 l.rs, .int .i64 l.rg, .int .i64 0, .int .i64 0, .int .i64 0, .int .i64 0, .slice none 0 0, .slice ra 1 rc, .pointer none, .int .i64 2, .int .i64 now, .int .i64 0] 223 (0, 0)) by rw [<- hw3]; exact nB w2 _)
  have B23 := hid (show Below w2.heap.size w2 w3 by rw [<- hw3]; exact (Below.refl _ _).alloc (Nat.le_refl _) _)
  have hs3 : w3.heap.size = w2.heap.size + 1 := by rw [<- hw3]; simp
  have hs2 : w1.heap.size < w2.heap.size := lB HS2.out
  have HS3 := hid hs3
  rw [hw3]
  have IE := hid (iempty8 w2.heap.size _ _ w3 HB3.out (by simp))
  clear hw3 hs3 s0 s1 s2 s3 s4 s5 s6 s7 s8 s9 s10 s11 s12 s13 s14 s15 s16 s17 s18 s19
  with_reducible refine (stable8c _ _ (qB HB3.out)).mono ?_
  rintro e w4 ⟨rfl, rfl⟩
  have hl3 : w2.heap.size < w3.heap.size := lB HB3.out
  go_wp2_with fail
  with_reducible refine IE.out.mono ?_
  rintro e w5 ⟨rfl, tb, cb, qb, P, Q, R, ix, nw, f5, hb5⟩
  have IX := hid ix
  have NW := hid nw
  have F5 := hid f5
  have HB5 := hid hb5
  have HS5 := hid ((f5.block w1.heap.size (Nat.lt_trans hs2 hl3) (by omega)).trans ((B23.out.block w1.heap.size hs2).trans HS2.out))
  have s19 := qB (i := 19) HS5.out
  have RV5 := hid (own_fr (own_same (own_same RV.out (fun g hg => B12.out.block g (RV.out.lt g hg).2)) (fun g hg => B23.out.block g (Nat.lt_of_lt_of_le (RV.out.lt g hg).2 B12.out.size))) f5 (fun g hg e => by have h1 := (RV.out.lt g hg).2; omega))
  have BW3 := hid (tB (tB B1.out B12.out) B23.out)
  have hw12 := B1.out.size
  have BW5 := hid (show Below w.heap.size w w5 from BW3.out.trans ⟨f5.os, f5.tape, f5.output, f5.size, fun k hk => f5.block k (by have := BW3.out.size; omega) (by omega)⟩)
  clear ix nw f5 hb5
  go_wp2_with fail
  go_loopw [51] (fun i wr => i = .int .i64 0 /\ wr = w5) (fun _ _ => 0)
  case atStart => exact ⟨rfl, rfl⟩
  case round =>
    obtain ⟨rfl, rfl⟩ := hrel
    go_wp2_with fail
    go_ret2
    exact ⟨w2.heap.size, tb, cb, qb, P, Q, R, _, rfl, HB5.out, IX.out, RV5.out, by omega, fun j hj => by have h1 := NW.out j hj; have h2 := HS3.out; omega, fun g hg => by have h1 := (RV.out.lt g hg).2; omega, BW5.out⟩
end Go.Proofs.YtbikkioipamlmaaGreatDoor
namespace Go.Proofs.YtbikkioipamlmaaGreatDoor
open Go.Maps Go.RowKit T16
theorem tabstp_cell {w w2 w5 : World} {o : Obj} {tb : Nat} {m : Option (ByteArray × Ent)} {N : Nat} {P P2 : Nat -> Prop} (hP : ∀ j, P j -> j < w.heap.size) (t2 : tabP tb m N w2 P2) (f2 : Fr P (w.alloc o) w2) (n2 : ∀ j, P2 j -> P j \/ (w.alloc o).heap.size <= j) (f5 : Fr (fun j => j = w.heap.size) w2 w5) : TabStp w w5 tb m N P := by
  have hb : Below w.heap.size w (w.alloc o) := (Below.refl _ _).alloc (Nat.le_refl _) _
  have hs : (w.alloc o).heap.size = w.heap.size + 1 := by simp
  refine ⟨P2, t2.fr f5 (fun j hj e => ?_), ((Fr.of_below hb).trans f2 (fun j hj => .inl hj)).trans f5 (fun j hj => .inr (by omega)), fun j hj => (n2 j hj).imp id (fun h => by omega)⟩
  rcases n2 j hj with h | h
  · have := hP j h; omega
  · omega
theorem fr_set5 (w : World) (b : Nat) (v0 v1 v2 v3 v4 : Value) : Fr (fun j => j = b) w (((((w.setCell ⟨b, 0, none⟩ v0).setCell ⟨b, 1, none⟩ v1).setCell ⟨b, 2, none⟩ v2).setCell ⟨b, 3, none⟩ v3).setCell ⟨b, 4, none⟩ v4) :=
  ((((fS _ _ _ _).trans (fS _ _ _ _) (fun j hj => .inl hj)).trans (fS _ _ _ _) (fun j hj => .inl hj)).trans (fS _ _ _ _) (fun j hj => .inl hj)).trans (fS _ _ _ _) (fun j hj => .inl hj)
theorem sentry8 (sb tb cb qb dp ib mb cap n : Nat) (D : DataW Nat) (S : List (List Int)) (wn : Nat) (ev : Int) (l : Lay) (lv : Value) (ob : Option Nat) (nx now : Int) (m : Option (ByteArray × Ent)) (N : Nat) (P : Nat -> Prop) (k : ByteArray) (w : World) (h : StB w sb tb cb qb dp ev l lv ob nx now) (hd : Dev w dp ib mb cap n D S wn) (ht : tabP tb m N w P) (hk : k.size <= 9223372036854775807) :
    Calls prog 76 #[.pointer (some ⟨sb, 0, none⟩), .string k] w fun e w' => ∃ b x, e = .returned (.tuple #[entV x, .bool b]) /\ TabStp w w' tb m N P /\ (b = true -> m = some (k, x)) /\ (b = false -> (∀ e, m ≠ some (k, e)) /\ x = ent0) := by
  have c0 : w.cell? ⟨sb, 0, none⟩ = some (.pointer (some ⟨tb, 0, none⟩)) := qB (i := 0) h
  have hl := lB h
  have hba : Below w.heap.size w (w.alloc (.cells #[.int .i64 0, .int .i64 0, .int .i64 0, .int .i64 0, .bool false] 110)) := (Below.refl _ _).alloc (Nat.le_refl _) _
  have BA := hid hba
  have DN := hid (down8 sb tb cb qb dp ib mb cap n D S wn ev l lv ob nx now _ (h.below hba) (hd.below hba))
  have TG := hid (tget8 tb m N k (w.alloc (.cells #[.int .i64 0, .int .i64 0, .int .i64 0, .int .i64 0, .bool false] 110)) P (ht.fr (S := fun _ => False) (Fr.of_below hba) (fun _ _ f => f)) hk)
  have PL := hid ht.lt
  clear h hd ht hba
  go_enter Tryz.func76, Tryz.ntmps76
  go_wp2_with fail
  with_reducible refine DN.out.mono ?_
  rintro e w1 ⟨rfl, rfl⟩
  go_wp2_with fail
  with_reducible refine TG.out.mono ?_
  rintro e w2 ⟨b, x, rfl, ⟨P2, t2, f2, n2⟩, hb1, hb0⟩
  have HZ := hid ((f2.block w.heap.size (by simp) (fun hj => by have := PL.out _ hj; omega)).trans (nB w _))
  have z0 := qB (i := 0) HZ.out
  have y0 := zB (i := 0) HZ.out
  have z1 := qB (i := 1) HZ.out
  have y1 := zB (i := 1) HZ.out
  have z2 := qB (i := 2) HZ.out
  have y2 := zB (i := 2) HZ.out
  have z3 := qB (i := 3) HZ.out
  have y3 := zB (i := 3) HZ.out
  have z4 := qB (i := 4) HZ.out
  have y4 := zB (i := 4) HZ.out
  have X := hid (And.intro t2 (And.intro f2 (And.intro n2 (And.intro hb1 hb0))))
  have hz2 : w.heap.size < w2.heap.size := lB HZ.out
  clear t2 f2 n2 hb1 hb0
  obtain ⟨xs, xo, xl, xe, xh⟩ := x
  unfold entV
  simp only
  go_wp2_with (with_reducible refine bodyPost_ret (results_cell2 rfl _ _ w.heap.size _ _ _ _ rfl (uB (uB (uB (uB (uB HZ.out _) _) _) _) _) Tryz.underlying110 rfl (by kernel_rfl)) rfl ?_; exact ⟨b, ⟨xs, xo, xl, xe, xh⟩, rfl, tabstp_cell PL.out X.out.1 X.out.2.1 X.out.2.2.1 (fr_set5 _ _ _ _ _ _ _), X.out.2.2.2.1, X.out.2.2.2.2⟩)
end Go.Proofs.YtbikkioipamlmaaGreatDoor
namespace Go.Proofs.YtbikkioipamlmaaGreatDoor
open Go.Maps Go.RowKit
theorem seal0 (sb tb cb qb dp ib mb cap n : Nat) (D : DataW Nat) (S : List (List Int)) (wn : Nat) (ev : Int) (l : Lay) (lv : Value) (nx now : Int) (w : World) (h : StB w sb tb cb qb dp ev l lv none nx now) (hd : Dev w dp ib mb cap n D S wn) :
    Calls prog 210 #[.pointer (some ⟨sb, 0, none⟩)] w fun e w' => e = .returned (.int .i64 0) /\ w = w' := by
  have c22 : w.cell? ⟨sb, 22, none⟩ = some (.pointer none) := qB (i := 22) h
  have hl := lB h
  have DN := hid (down8 sb tb cb qb dp ib mb cap n D S wn ev l lv none nx now w h hd)
  clear h hd
  go_enter Tryz.func210, Tryz.ntmps210
  go_wp2_with fail
  with_reducible refine DN.out.mono ?_
  rintro e w1 ⟨rfl, rfl⟩
  go_wp2_with fail
  go_ret
  exact ⟨rfl, rfl⟩
theorem ssync8 (T : Nat -> Int) (sb tb cb qb rb dp pb ib mb cap n : Nat) (D : DataW Nat) (S : List (List Int)) (wn fi : Nat) (ev : Int) (h : Hd) (l l' : Lay) (lv : Value) (nx now : Int) (st : List Int) (tk : Nat) (sv : Value) (w : World) (hst : StB w sb tb cb qb dp ev l' lv (some rb) nx now) (r : Rgn w rb dp pb h l st tk sv) (hd : Dev w dp ib mb cap n D S wn) (hT : CrcT T w)
    (h0 : tk * 59 < st.length) (h1 : st.length <= (tk + 1) * 59) (hfi : firstD l h.slot = (fi : Int)) (hS : fi + 1 + tk < S.length) (hwr : wn + 1 <= 1000000) (hdis : ∀ j, regF rb pb sv j -> ¬ devF dp ib mb j) (hz : 0 < pb /\ ∀ j, pkF pb sv j -> 0 < j) (hz2 : ∀ j, devF dp ib mb j -> 0 < j) :
    Calls prog 59 #[.pointer (some ⟨sb, 0, none⟩)] w fun e w' => e = .returned (.int .i64 0) /\ ∃ n' sv', Dev w' dp ib mb cap n' (.map []) (S.set (fi + 1 + tk) (frameE (crcF T) 2 h.seq ((fi : Int) + 1 + (tk : Int)) (((st ++ List.replicate (padN st.length) 0).drop (tk * 59)).take 59))) (wn + 1) /\
      Rgn w' rb dp pb h l (st ++ List.replicate (padN st.length) 0) (tk + 1) sv' /\ Fr (fun j => pkF pb sv j \/ devF dp ib mb j) w w' /\ (∀ b, sv'.ownBlock = some b -> sv.ownBlock = some b \/ w.heap.size <= b) := by
  have c22 : w.cell? ⟨sb, 22, none⟩ = some (.pointer (some ⟨rb, 0, none⟩)) := qB (i := 22) hst
  have hl := lB hst
  have DN := hid (down8 sb tb cb qb dp ib mb cap n D S wn ev l' lv (some rb) nx now w hst hd)
  have SY := hid (rsync1 T rb dp pb ib mb cap n D S wn fi h l st tk sv w r hd hT h0 h1 hfi hS hwr hdis hz hz2)
  clear hst r hd hT h0 h1 hfi hdis hz hz2
  go_enter Tryz.func59, Tryz.ntmps59
  go_wp2_with fail
  with_reducible refine DN.out.mono ?_
  rintro e w1 ⟨rfl, rfl⟩
  go_wp2_with fail
  with_reducible refine SY.out.mono ?_
  rintro e w2 ⟨rfl, n', sv', hd', hr', hf', hn'⟩
  have X := hid (And.intro hd' (And.intro hr' (And.intro hf' hn')))
  clear hd' hr' hf' hn'
  go_wp2_with fail
  with_reducible refine (did8 sb _).mono ?_
  rintro e w3 ⟨rfl, rfl⟩
  go_wp2_with fail
  go_ret
  exact ⟨rfl, n', sv', X.out⟩
end Go.Proofs.YtbikkioipamlmaaGreatDoor
namespace Go.Proofs.YtbikkioipamlmaaGreatDoor
open Go.Maps Go.RowKit L21
def hd1 (l : Lay) : Hd := ⟨l.ver, 0, l.id, 1, 1, 0⟩
def rg1 (l : Lay) : Reg := ⟨l.ver, 0, l.id, 1, 1, 0, l⟩
theorem hd1_ok {l : Lay} (h : formB l = true) : hdB (hd1 l) = true := by
  have h1 := formB_rng h
  have h2 := (formB_pow h).2.2.1
  refine decide_eq_true ⟨h2, ?_⟩
  simp only [hd1]
  omega
theorem candL_none {F : SumF} {S : List (List Int)} {l : Lay} (hn : ∀ k, headAt F S l k = none) : ∀ k, candL F S l k = []
  | 0 => rfl
  | k + 1 => by unfold candL; rw [candL_none hn k, hn k]; rfl
theorem candL_one {F : SumF} {S : List (List Int)} {l : Lay} (h0 : headAt F S l 0 = some (hd1 l)) (hn : ∀ k, headAt F S l (k + 1) = none) : ∀ k, candL F S l (k + 1) = [rg1 l]
  | 0 => by unfold candL; rw [h0]; rfl
  | k + 1 => by unfold candL; rw [candL_one h0 hn k, hn k]; rfl
theorem secs0_length (F : SumF) (n : Nat) (l : Lay) : (secs0 F n l).length = n := by simp [secs0]
theorem secs0_get (F : SumF) (n : Nat) (l : Lay) (i : Nat) (hi : i < n) (h1 : i ≠ 1) : (secs0 F n l)[i]? = some (List.replicate 64 0) := by
  unfold secs0
  rw [List.getElem?_set_ne (by omega), List.getElem?_replicate, if_pos hi]
theorem secs0_sup (F : SumF) (n : Nat) (l : Lay) (h : 1 < n) : (secs0 F n l)[1]? = some (supE F 1 (sup0 l)) := by
  unfold secs0
  rw [List.getElem?_set_self (by simp; omega)]
theorem headAt_zero {F : SumF} {S : List (List Int)} {l : Lay} {k : Nat} (h : S[74 + k * l.rs.toNat]? = some (List.replicate 64 0) \/ S.length <= 74 + k * l.rs.toNat) : headAt F S l k = none := by
  unfold headAt
  obtain ⟨i, hi⟩ : ∃ i, 74 + k * l.rs.toNat = i := ⟨_, rfl⟩
  rw [hi] at h ⊢
  rcases h with h | h
  · obtain ⟨z, hz⟩ : ∃ z, List.replicate 64 (0 : Int) = z := ⟨_, rfl⟩
    have hq : hdD F (i : Int) z = none := by rw [<- hz]; exact hdD_zero _ _ _
    rw [h, hz]
    simp only [hq]
  · rw [List.getElem?_eq_none h]
theorem secs0_cand (F : SumF) (n : Nat) (l : Lay) : ∀ k, candL F (secs0 F n l) l k = [] := candL_none (fun k => headAt_zero (by
  rcases Nat.lt_or_ge (74 + k * l.rs.toNat) n with h | h
  · exact .inl (secs0_get F n l _ h (by omega))
  · exact .inr (by rw [secs0_length]; exact h)))
def secs1 (F : SumF) (n : Nat) (l : Lay) : List (List Int) := (secs0 F n l).set 74 (hdE F 74 (hd1 l))
def secs2 (F : SumF) (n : Nat) (l : Lay) (p : List Int) : List (List Int) := (secs1 F n l).set 75 (frameE F 2 1 75 p)
theorem secs2_length (F : SumF) (n : Nat) (l : Lay) (p : List Int) : (secs2 F n l p).length = n := by simp [secs2, secs1, secs0]
theorem secs2_get (F : SumF) (n : Nat) (l : Lay) (p : List Int) (i : Nat) (hi : i < n) (h1 : i ≠ 1) (h2 : i ≠ 74) (h3 : i ≠ 75) : (secs2 F n l p)[i]? = some (List.replicate 64 0) := by
  unfold secs2 secs1
  rw [List.getElem?_set_ne (by omega), List.getElem?_set_ne (by omega), secs0_get F n l i hi h1]
theorem secs2_sup (F : SumF) (n : Nat) (l : Lay) (p : List Int) (h : 1 < n) : (secs2 F n l p)[1]? = some (supE F 1 (sup0 l)) := by
  unfold secs2 secs1
  rw [List.getElem?_set_ne (by omega), List.getElem?_set_ne (by omega), secs0_sup F n l h]
theorem secs2_cand (F : SumF) (n : Nat) (l : Lay) (p : List Int) (hf : formB l = true) (hn : 74 < n) (k : Nat) (hk : 1 <= k) : candL F (secs2 F n l p) l k = [rg1 l] := by
  have hr := formB_rng hf
  obtain ⟨k, rfl⟩ : ∃ q, k = q + 1 := ⟨k - 1, by omega⟩
  refine candL_one ?_ (fun k => headAt_zero ?_) k
  · have e : (secs2 F n l p)[74]? = some (hdE F 74 (hd1 l)) := by
      unfold secs2 secs1
      rw [List.getElem?_set_ne (by omega), List.getElem?_set_self (by rw [secs0_length]; exact hn)]
    unfold headAt
    rw [Nat.zero_mul, Nat.add_zero, e]
    simp only
    rw [show ((74 : Nat) : Int) = 74 from rfl, hdD_E (hd1_ok hf) (by omega) (by omega)]
    simp [hd1]
  · have h2 : 2 <= (k + 1) * l.rs.toNat := Nat.le_trans (show 2 <= 1 * l.rs.toNat by omega) (Nat.mul_le_mul_right _ (by omega))
    rcases Nat.lt_or_ge (74 + (k + 1) * l.rs.toNat) n with h | h
    · exact .inl (secs2_get F n l p _ h (by omega) (by omega) (by omega))
    · exact .inr (by rw [secs2_length]; exact h)
theorem secs2_str (F : SumF) (n : Nat) (l : Lay) (p : List Int) (hf : formB l = true) (hp : p.length = 59) (hn : 75 < n) (hn2 : 74 + l.rg * l.rs <= (n : Int)) : strF F (secs2 F n l p) 1 (74 + 1) (l.rs.toNat - 1) = p := by
  have hr := formB_rng hf
  obtain ⟨k, hk⟩ : ∃ k, l.rs.toNat - 1 = k + 1 := ⟨l.rs.toNat - 2, by omega⟩
  rw [hk]
  refine strF_one ?_ hp (by omega) (by omega) ?_
  · unfold secs2
    rw [List.getElem?_set_self (by simp [secs1, secs0]; omega)]
    rfl
  · rcases Nat.eq_zero_or_pos k with h | h
    · exact .inl h
    · refine .inr (secs2_get F n l p _ ?_ (by omega) (by omega) (by omega))
      have h4 : 4 * l.rs <= l.rg * l.rs := Int.mul_le_mul_of_nonneg_right (by omega) (by omega)
      omega
theorem rec_pad (T : Nat -> Int) (ver seq : Int) (r : Rec) {kn vn z : Nat} (hk : r.key.length = kn) (hv : r.val.length = vn) (hz : 16 + kn + vn + z = 59) (hz0 : 0 < z) : padN (recE T ver seq 0 r).length = z /\ (recE T ver seq 0 r ++ List.replicate z 0).length = 59 := by
  rw [List.length_append, recE_length, List.length_replicate, hk, hv]
  unfold padN
  constructor <;> omega
end Go.Proofs.YtbikkioipamlmaaGreatDoor
