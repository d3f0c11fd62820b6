/-
  Laws and contracts for the statement TopExpired.
-/
import Derived.Test.YtbikkioipamlmaaGreatDoorX37
open Go.Lib (hid)
open Go.Proofs.Tryz (prog)
set_option linter.unusedVariables false
set_option linter.unusedSimpArgs false
set_option maxRecDepth 100000
set_option maxHeartbeats 20000000
namespace Go.Proofs.YtbikkioipamlmaaGreatDoor
open Go.Maps Go.RowKit
section
variable {w w' : World} {rp ob nb tb oc nc tc : Nat}
theorem rep_set (n k : Nat) (h : k < n) : (List.replicate n (List.replicate 64 (0 : Int))).set k (pad64 []) = List.replicate n (List.replicate 64 0) := by
  have hz : pad64 [] = List.replicate 64 0 := rfl
  rw [hz]
  refine List.ext_getElem? fun j => ?_
  by_cases e : j = k
  · subst e; rw [List.getElem?_set_self (by simpa using h), List.getElem?_replicate, if_pos h]
  · rw [List.getElem?_set_ne (fun x => e x.symm)]
theorem rformat8 (n : Nat) (l : Lay) (hd : RD w rp ob nb tb oc nc tc (List.replicate n (List.replicate 64 0)) 0 0) (h2 : 2 <= n) (h1 : n <= 1000) (hl : formB l = true) :
    Calls prog 37 #[.pointer (some ⟨rp, 0, none⟩), .agg #[.int .i64 l.id, .int .i64 l.ver, .int .i64 l.rs, .int .i64 l.rg]] w fun e w' => e = .returned (.int .i64 0) /\ (∃ lf wt, RD w' rp ob nb tb oc nc tc (secs0 rF n l) lf wt) /\ Fr (rdF rp ob nb tb) w w' := by
  have HL := hid hl
  have HZ := hid (show (List.replicate n (List.replicate 64 (0 : Int))).length = n by simp)
  obtain ⟨S, hS⟩ : ∃ S, List.replicate n (List.replicate 64 (0 : Int)) = S := ⟨_, rfl⟩
  have HS := hid hS
  rw [hS] at hd HZ
  obtain ⟨w1, hw1⟩ : ∃ w1, w.alloc (.cells #[.int .i64 l.id, .int .i64 l.ver, .int .i64 l.rs, .int .i64 l.rg] 26) = w1 := ⟨_, rfl⟩
  have B1 := hid (show Below w.heap.size w w1 by rw [<- hw1]; exact (Below.refl _ _).alloc (Nat.le_refl _) _)
  have HK := hid (show w1.heap[w.heap.size]? = some (.cells #[.int .i64 l.id, .int .i64 l.ver, .int .i64 l.rs, .int .i64 l.rg] 26 (0, 0)) by rw [<- hw1]; exact nB w _)
  have D1 := hid (hd.below B1.out)
  have hlt := hd.lt
  have HLT := hid hlt
  have d2 : w1.cell? ⟨rp, 2, none⟩ = some (.slice (some ⟨tb, 0, none⟩) n tc) := by
    have h := qB (i := 2) D1.out.blk
    rw [HZ.out] at h
    exact h
  have hr1 := lB D1.out.blk
  have hws : w.heap.size < w1.heap.size := lB HK.out
  clear hd hl hS hlt
  go_enter Tryz.func37, Tryz.ntmps37
  go_wp2_with fail
  (try rw [hw1])
  clear hw1
  go_wp2_with fail
  go_loopw [5, 12] (fun _ iv wr => ∃ k : Nat, k <= n /\ iv = .int .i64 k /\ RD wr rp ob nb tb oc nc tc S k k /\ Fr (rdF rp ob nb tb) w1 wr) (fun _ iv _ => n - (intOf iv).toNat)
  case atStart => exact ⟨0, Nat.zero_le _, rfl, D1.out, Fr.refl _ _⟩
  case round =>
    obtain ⟨k, hk, rfl, hr, hf⟩ := hrel
    have HR := hid hr
    have HF := hid hf
    clear hr hf
    by_cases hlt : k < n
    · have hkl : (k : Int) < (n : Int) := by omega
      have WR := hid (rwrite8 k none 0 0 [] HR.out (by rw [HZ.out]; exact hlt) (Rd8.nilv _) (by omega) (by omega) (by omega) (fun ad e => by cases e))
      go_wp2_with fail
      with_reducible refine WR.out.mono ?_
      rintro e w4 ⟨rfl, hd4, hf4⟩
      have HD4 := hid (show RD w4 rp ob nb tb oc nc tc S (k + 1) (k + 1) from by
        have e := rep_set n k hlt
        rw [HS.out] at e
        rw [e] at hd4
        exact hd4)
      have HF4 := hid hf4
      clear hd4 hf4
      go_wp2_with fail
      go_roundw
      case rel => exact ⟨k + 1, by omega, by go_num, HD4.out, HF.out.trans HF4.out (fun j hj => .inl hj)⟩
      case measure => simp [intOf]; omega
    · obtain rfl : k = n := by omega
      have BA := hid (rbarr8 HR.out (by omega))
      go_wp2_with fail
      with_reducible refine BA.out.mono ?_
      rintro e w4 ⟨rfl, hd4, hf4⟩
      have F4 := hid (HF.out.trans hf4 (fun j hj => .inl hj))
      have HD4 := hid hd4
      have hbox : ¬ rdF rp ob nb tb w.heap.size := fun h => by have := HLT.out _ h; omega
      have HK4 := hid ((F4.out.block w.heap.size hws hbox).trans HK.out)
      have q0 := qB (i := 0) HK4.out
      have q1 := qB (i := 1) HK4.out
      have q2 := qB (i := 2) HK4.out
      have q3 := qB (i := 3) HK4.out
      have hl4 := lB HK4.out
      clear hd4 hf4
      go_wp2_with fail
      with_reducible refine (rsenc8 l 1 _ HL.out (by omega) (by omega)).mono ?_
      rintro e w5 ⟨v5, rfl, ho5, hb5⟩
      have B5 := hid (bel1 hb5)
      have hlen5 : (supE rF 1 (sup0 l)).length = 64 := by
        unfold supE; exact frameE_length _ _ _ _ _ (by rw [<- supA_P]; simp [supA, layE_length, bL])
      obtain ⟨a5, c5, rfl, hr5⟩ := ho5.rd
      rw [hlen5] at hr5 ⊢
      have hlo5 : ∀ ad, a5 = some ad -> ¬ rdF rp ob nb tb ad.block := fun ad e h => by
        have h1 := (ho5.own.lt ad.block (by rw [e]; rfl)).1
        have h2 := HD4.out.lt _ h
        rw [heap_alloc_size] at h1
        omega
      have HD5 := hid (HD4.out.below B5.out)
      have WR0 := rwrite8 1 a5 64 c5 _ HD5.out (by rw [HZ.out]; omega) hr5 (by omega) (by omega) (by omega) hlo5
      rw [show ((1 : Nat) : Int) = 1 from rfl] at WR0
      have WR := hid WR0
      clear WR0
      have e5 := hid (pad64_self hlen5)
      clear ho5 hb5 hr5 hlo5 hlen5 q0 q1 q2 q3
      go_wp2_with fail
      with_reducible refine WR.out.mono ?_
      rintro e w6 ⟨rfl, hd6, hf6⟩
      rw [e5.out] at hd6
      have HF6 := hid hf6
      have BA := hid (rbarr8 hd6 (by omega))
      clear hd6 hf6
      go_wp2_with fail
      with_reducible refine BA.out.mono ?_
      rintro e w7 ⟨rfl, hd7, hf7⟩
      have HD7 := hid hd7
      have HF7 := hid hf7
      clear hd7 hf7
      go_wp2_with fail
      go_ret
      refine ⟨rfl, ⟨_, _, by unfold secs0; rw [HS.out]; exact HD7.out⟩, ?_⟩
      exact ((((Fr.of_below B1.out).trans F4.out (fun j hj => .inl hj)).trans (Fr.of_below B5.out) (fun j hj => .inl hj)).trans HF6.out (fun j hj => .inl hj)).trans HF7.out (fun j hj => .inl hj)
end
end Go.Proofs.YtbikkioipamlmaaGreatDoor
namespace Go.Proofs.YtbikkioipamlmaaGreatDoor
open Go.RowKit
theorem rnew25 {w : World} {rp ob nb tb oc nc tc lf wt : Nat} (l : Lay) (n : Nat) (h : RD w rp ob nb tb oc nc tc (secs0 rF n l) lf wt) (hl : formB l = true) (hf : 74 + l.rg * l.rs <= (n : Int)) (h2 : 2 <= n) (h1 : n <= 1000) :
    Calls prog 103 #[.pointer (some ⟨rp, 0, none⟩), .int .i64 0] w fun e w' => (∃ p, e = .returned (.tuple #[.pointer p, .int .i64 0])) /\ Below w.heap.size w w' := by
  have hA := h.all
  rw [secs0_length] at hA
  have RC := hid (rrec8 l n _ nc w hA h.ok hl hf h2 h1)
  have c1 := qB (i := 1) h.blk
  have c5 := qB (i := 5) h.blk
  have hr := lB h.blk
  rw [secs0_length] at c1 c5
  clear h hl hf hA
  go_enter Tryz.func103, Tryz.ntmps103
  go_wp2_with fail
  with_reducible refine RC.out.mono ?_
  rintro e w1 ⟨rfl, hb1⟩
  have B1 := hid hb1
  clear hb1 c1 c5
  iterate 14 (first | go_values | go_skip | go_guarded | go_step | go_upon | go_back | go_simp)
  refine wpList_store_row rfl 290 (.tmp 6) (.tmp 22) rfl w1.heap.size #[.int .i64 1, .int .i64 1, .int .i64 0, .int .i64 1, .int .i64 0, .int .i64 l.id, .int .i64 l.ver, .int .i64 l.rs, .int .i64 l.rg, .int .i64 0, .int .i64 0, .int .i64 0, .int .i64 0, .slice none 0 0, .slice none 0 0, .int .i64 1, .int .i64 1, .int .i64 0, .int .i64 0, .slice none 0 0] rfl rfl 290 _ (nB w1 _) (by kernel_rfl) rfl (by simp [Value.oneCell']) ?_
  rw [World.setRow_alloc_new]
  obtain ⟨w2, hw2⟩ : ∃ w2, w1.alloc (.cells #[.int .i64 1, .int .i64 1, .int .i64 0, .int .i64 1, .int .i64 0, .int .i64 l.id, .int .i64 l.ver, .int .i64 l.rs, .int .i64 l.rg, .int .i64 0, .int .i64 0, .int .i64 0, .int .i64 0, .slice none 0 0, .slice none 0 0, .int .i64 1, .int .i64 1, .int .i64 0, .int .i64 0, .slice none 0 0] 290) = w2 := ⟨_, rfl⟩
  have B2 := hid (show Below w.heap.size w w2 by rw [<- hw2]; exact B1.out.alloc B1.out.size _)
  have HS2 := hid (show w2.heap[w1.heap.size]? = some (.cells #[.int .i64 1, .int .i64 1, .int .i64 0, .int .i64 1, .int .i64 0, .int .i64 l.id, .int .i64 l.ver, .int .i64 l.rs, .int .i64 l.rg, .int .i64 0, .int .i64 0, .int .i64 0, .int .i64 0, .slice none 0 0, .slice none 0 0, .int .i64 1, .int .i64 1, .int .i64 0, .int .i64 0, .slice none 0 0] 290 (0, 0)) by rw [<- hw2]; exact nB w1 _)
  have hl2 := lB HS2.out
  rw [hw2]
  clear hw2
  have d0 := qB (i := 0) HS2.out
  have d1 := qB (i := 1) HS2.out
  have d2 := qB (i := 2) HS2.out
  have d3 := qB (i := 3) HS2.out
  have d4 := qB (i := 4) HS2.out
  have d5 := qB (i := 5) HS2.out
  have d6 := qB (i := 6) HS2.out
  have d7 := qB (i := 7) HS2.out
  have d8 := qB (i := 8) HS2.out
  have d9 := qB (i := 9) HS2.out
  have d10 := qB (i := 10) HS2.out
  have d11 := qB (i := 11) HS2.out
  have d12 := qB (i := 12) HS2.out
  have d13 := qB (i := 13) HS2.out
  have d14 := qB (i := 14) HS2.out
  have d15 := qB (i := 15) HS2.out
  have d16 := qB (i := 16) HS2.out
  have d17 := qB (i := 17) HS2.out
  have d18 := qB (i := 18) HS2.out
  have d19 := qB (i := 19) HS2.out
  go_upto_region 7 with fail
  obtain ⟨w3, hw3⟩ : ∃ w3, w2.alloc (.cells #[.pointer (some ⟨rp, 0, none⟩), .int .i64 1, .int .i64 1, .int .i64 0, .int .i64 1, .int .i64 0, .int .i64 l.id, .int .i64 l.ver, .int .i64 l.rs, .int .i64 l.rg, .int .i64 0, .int .i64 0, .int .i64 0, .int .i64 0, .slice none 0 0, .slice none 0 0, .pointer none, .int .i64 1, .int .i64 0, .int .i64 0, .int .i64 0, .int .i64 0, .slice none 0 0] 297) = w3 := ⟨_, rfl⟩
  have B3 := hid (show Below w.heap.size w w3 by rw [<- hw3]; exact B2.out.alloc B2.out.size _)
  have HT3 := hid (show w3.heap[w2.heap.size]? = some (.cells #[.pointer (some ⟨rp, 0, none⟩), .int .i64 1, .int .i64 1, .int .i64 0, .int .i64 1, .int .i64 0, .int .i64 l.id, .int .i64 l.ver, .int .i64 l.rs, .int .i64 l.rg, .int .i64 0, .int .i64 0, .int .i64 0, .int .i64 0, .slice none 0 0, .slice none 0 0, .pointer none, .int .i64 1, .int .i64 0, .int .i64 0, .int .i64 0, .int .i64 0, .slice none 0 0] 297 (0, 0)) by rw [<- hw3]; exact nB w2 _)
  have HS3 := hid (bel_old (show Below w2.heap.size w2 w3 by rw [<- hw3]; exact (Below.refl _ _).alloc (Nat.le_refl _) _) HS2.out)
  have hl3 := lB HT3.out
  have hs3 := lB HS3.out
  rw [hw3]
  clear hw3 d0 d1 d2 d3 d4 d5 d6 d7 d8 d9 d10 d11 d12 d13 d14 d15 d16 d17 d18 d19
  have e2 := qB (i := 2) HT3.out
  have e14 := qB (i := 14) HS3.out
  go_wp2_with fail
  go_loopw [55] (fun i wx => i = .int .i64 0 /\ wx = w3) (fun _ _ => 0)
  case atStart => exact ⟨rfl, rfl⟩
  case round =>
    obtain ⟨rfl, hwr⟩ := hrel
    rw [hwr]
    go_wp2_with fail
    go_ret2
    exact ⟨⟨_, rfl⟩, B3.out⟩
theorem rnew28 {w : World} {rp ob nb tb oc nc tc lf wt : Nat} (l : Lay) (n : Nat) (h : RD w rp ob nb tb oc nc tc (secs0 rF n l) lf wt) (hl : formB l = true) (hf : 74 + l.rg * l.rs <= (n : Int)) (h2 : 2 <= n) (h1 : n <= 1000) :
    Calls prog 39 #[.pointer (some ⟨rp, 0, none⟩), .int .i64 0] w fun e w' => (∃ p, e = .returned (.tuple #[.pointer p, .int .i64 0])) /\ Below w.heap.size w w' := by
  have NW := hid (rnew25 l n h hl hf h2 h1)
  clear h hl hf
  go_enter Tryz.func39, Tryz.ntmps39
  go_wp2_with fail
  with_reducible refine NW.out.mono ?_
  rintro e w1 ⟨⟨p, rfl⟩, hb1⟩
  have B1 := hid hb1
  clear hb1
  go_wp2_with fail
  go_ret2
  exact ⟨⟨_, rfl⟩, (B1.out.alloc B1.out.size _).alloc (Nat.le_trans B1.out.size (by simp)) _⟩
end Go.Proofs.YtbikkioipamlmaaGreatDoor
