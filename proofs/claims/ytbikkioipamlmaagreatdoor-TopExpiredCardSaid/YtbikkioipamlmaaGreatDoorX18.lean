/-
  Laws and contracts for the statement TopExpired.
-/
import Derived.Shelf.SlLaysZ
import Derived.Shelf.SlLaysF
import Derived.Shelf.SlIter.Collect
import Derived.Shelf.SlSortCmp.Whole1
import Derived.Sort.OwnSorted
import Derived.Sort.LotA
import Derived.Test.YtbikkioipamlmaaGreatDoorX17
open Go.Lib (hid)
open Go.Proofs.Tryz (prog)
set_option linter.unusedVariables false
set_option linter.unusedSimpArgs false
set_option maxRecDepth 100000
set_option maxHeartbeats 20000000
namespace Go.Proofs.YtbikkioipamlmaaGreatDoor.T16
open Go.Shelf
def keysRen : Go.Shelf.Ren := ⟨fun | 7 => 182 | 10 => 259 | n => n, fun | 23 => 302 | 26 => 9 | 3 => 110 | 28 => 313 | 0 => 0 | 27 => 312 | 33 => 250 | 4 => 4 | n => n, fun | n => n⟩
theorem keysLays : SlLaysZ.n7 prog keysRen := {
  mixed := by kernel_rfl
  f7 := ⟨Tryz.f182.name, by decide, Tryz.func182.trans (congrArg some (by kernel_rfl))⟩
  f10 := ⟨Tryz.f259.name, by decide, Tryz.func259.trans (congrArg some (by kernel_rfl))⟩
  t0 := Tryz.underlying0
  a0 := Tryz.isAgg0
  z0 := Tryz.sizeOf0
  v0 := Tryz.zeroValue0
  t4 := Tryz.underlying4
  a4 := Tryz.isAgg4
  z4 := Tryz.sizeOf4
  v4 := Tryz.zeroValue4
  t23 := Tryz.underlying302
  a23 := Tryz.isAgg302
  z23 := Tryz.sizeOf302
  v23 := Tryz.zeroValue302
  t26 := Tryz.underlying9
  a26 := Tryz.isAgg9
  z26 := Tryz.sizeOf9
  v26 := Tryz.zeroValue9
  t27 := Tryz.underlying312
  a27 := Tryz.isAgg312
  z27 := Tryz.sizeOf312
  v27 := Tryz.zeroValue312
  t28 := Tryz.underlying313
  a28 := Tryz.isAgg313
  z28 := Tryz.sizeOf313
  v28 := Tryz.zeroValue313
  t33 := Tryz.underlying250
  a33 := Tryz.isAgg250
  z33 := Tryz.sizeOf250
  v33 := Tryz.zeroValue250 }
def collectRen : Go.Shelf.Ren := ⟨fun | 8 => 257 | 11 => 313 | n => n, fun | 26 => 9 | 28 => 313 | 24 => 43 | 0 => 0 | 33 => 250 | 4 => 4 | n => n, fun | n => n⟩
theorem collectLays : SlLaysZ.n8 prog collectRen := {
  mixed := by kernel_rfl
  f8 := ⟨Tryz.f257.name, by decide, Tryz.func257.trans (congrArg some (by kernel_rfl))⟩
  f11 := ⟨Tryz.f313.name, by decide, Tryz.func313.trans (congrArg some (by kernel_rfl))⟩
  t0 := Tryz.underlying0
  a0 := Tryz.isAgg0
  z0 := Tryz.sizeOf0
  v0 := Tryz.zeroValue0
  t24 := Tryz.underlying43
  a24 := Tryz.isAgg43
  z24 := Tryz.sizeOf43
  v24 := Tryz.zeroValue43
  t26 := Tryz.underlying9
  a26 := Tryz.isAgg9
  z26 := Tryz.sizeOf9
  v26 := Tryz.zeroValue9
  t28 := Tryz.underlying313
  a28 := Tryz.isAgg313
  z28 := Tryz.sizeOf313
  v28 := Tryz.zeroValue313
  i26 := by kernel_rfl }
def sortRen : Go.Shelf.Ren := ⟨fun | 6 => 258 | 15 => 269 | 14 => 314 | 28 => 324 | 29 => 325 | 20 => 353 | 21 => 354 | 22 => 355 | 23 => 356 | 24 => 357 | 25 => 358 | 26 => 359 | 27 => 360 | 46 => 372 | 47 => 363 | 48 => 364 | 49 => 373 | 50 => 374 | 57 => 386 | n => n, fun | 22 => 43 | 24 => 9 | 25 => 315 | 3 => 3 | 39 => 97 | 0 => 0 | 53 => 125 | 55 => 167 | 4 => 4 | 46 => 435 | 45 => 434 | 50 => 326 | 5 => 5 | 9 => 9 | 66 => 462 | 70 => 466 | 76 => 475 | 77 => 476 | n => n, fun | n => n⟩
theorem sortLays : SlLaysF.n6 prog sortRen := {
  mixed := by kernel_rfl
  f6 := ⟨Tryz.f258.name, by decide, Tryz.func258.trans (congrArg some (by kernel_rfl))⟩
  f14 := ⟨Tryz.f314.name, by decide, Tryz.func314.trans (congrArg some (by kernel_rfl))⟩
  f15 := Tryz.func269.trans (congrArg some (by kernel_rfl))
  f20 := ⟨Tryz.f353.name, by decide, Tryz.func353.trans (congrArg some (by kernel_rfl))⟩
  f21 := ⟨Tryz.f354.name, by decide, Tryz.func354.trans (congrArg some (by kernel_rfl))⟩
  f22 := ⟨Tryz.f355.name, by decide, Tryz.func355.trans (congrArg some (by kernel_rfl))⟩
  f23 := ⟨Tryz.f356.name, by decide, Tryz.func356.trans (congrArg some (by kernel_rfl))⟩
  f24 := ⟨Tryz.f357.name, by decide, Tryz.func357.trans (congrArg some (by kernel_rfl))⟩
  f25 := ⟨Tryz.f358.name, by decide, Tryz.func358.trans (congrArg some (by kernel_rfl))⟩
  f26 := ⟨Tryz.f359.name, by decide, Tryz.func359.trans (congrArg some (by kernel_rfl))⟩
  f27 := ⟨Tryz.f360.name, by decide, Tryz.func360.trans (congrArg some (by kernel_rfl))⟩
  f28 := Tryz.func324.trans (congrArg some (by kernel_rfl))
  f29 := Tryz.func325.trans (congrArg some (by kernel_rfl))
  f46 := ⟨Tryz.f372.name, by decide, Tryz.func372.trans (congrArg some (by kernel_rfl))⟩
  f47 := Tryz.func363.trans (congrArg some (by kernel_rfl))
  f48 := Tryz.func364.trans (congrArg some (by kernel_rfl))
  f49 := ⟨Tryz.f373.name, by decide, Tryz.func373.trans (congrArg some (by kernel_rfl))⟩
  f50 := ⟨Tryz.f374.name, by decide, Tryz.func374.trans (congrArg some (by kernel_rfl))⟩
  f57 := ⟨Tryz.f386.name, by decide, Tryz.func386.trans (congrArg some (by kernel_rfl))⟩
  t0 := Tryz.underlying0
  a0 := Tryz.isAgg0
  z0 := Tryz.sizeOf0
  v0 := Tryz.zeroValue0
  t3 := Tryz.underlying3
  a3 := Tryz.isAgg3
  z3 := Tryz.sizeOf3
  v3 := Tryz.zeroValue3
  t4 := Tryz.underlying4
  a4 := Tryz.isAgg4
  z4 := Tryz.sizeOf4
  v4 := Tryz.zeroValue4
  t5 := Tryz.underlying5
  a5 := Tryz.isAgg5
  z5 := Tryz.sizeOf5
  v5 := Tryz.zeroValue5
  t9 := Tryz.underlying9
  a9 := Tryz.isAgg9
  z9 := Tryz.sizeOf9
  v9 := Tryz.zeroValue9
  t22 := Tryz.underlying43
  a22 := Tryz.isAgg43
  z22 := Tryz.sizeOf43
  v22 := Tryz.zeroValue43
  a24 := Tryz.isAgg9
  z24 := Tryz.sizeOf9
  t25 := Tryz.underlying315
  a25 := Tryz.isAgg315
  z25 := Tryz.sizeOf315
  v25 := Tryz.zeroValue315
  t39 := Tryz.underlying97
  a39 := Tryz.isAgg97
  z39 := Tryz.sizeOf97
  v39 := Tryz.zeroValue97
  t45 := Tryz.underlying434
  a45 := Tryz.isAgg434
  z45 := Tryz.sizeOf434
  v45 := Tryz.zeroValue434
  t46 := Tryz.underlying435
  a46 := Tryz.isAgg435
  z46 := Tryz.sizeOf435
  v46 := Tryz.zeroValue435
  t50 := Tryz.underlying326
  a50 := Tryz.isAgg326
  z50 := Tryz.sizeOf326
  v50 := Tryz.zeroValue326
  t53 := Tryz.underlying125
  a53 := Tryz.isAgg125
  z53 := Tryz.sizeOf125
  v53 := Tryz.zeroValue125
  t55 := Tryz.underlying167
  a55 := Tryz.isAgg167
  z55 := Tryz.sizeOf167
  v55 := Tryz.zeroValue167
  t66 := Tryz.underlying462
  a66 := Tryz.isAgg462
  z66 := Tryz.sizeOf462
  v66 := Tryz.zeroValue462
  t70 := Tryz.underlying466
  a70 := Tryz.isAgg466
  z70 := Tryz.sizeOf466
  v70 := Tryz.zeroValue466
  t76 := Tryz.underlying475
  a76 := Tryz.isAgg475
  z76 := Tryz.sizeOf475
  v76 := Tryz.zeroValue475
  t77 := Tryz.underlying476
  a77 := Tryz.isAgg476
  z77 := Tryz.sizeOf476
  v77 := Tryz.zeroValue476 }
end Go.Proofs.YtbikkioipamlmaaGreatDoor.T16
namespace Go.Proofs.YtbikkioipamlmaaGreatDoor.T16
open Go.Maps Go.RowKit Go.Shelf Go.Sort
section
variable {H : Type}
theorem keys31 (mb : Option Nat) (w : World) : Calls prog 182 #[.map mb] w fun e w' =>
    e = .returned (.func (.func 259) #[] #[.pointer (some ⟨w.heap.size, 0, none⟩)]) /\ w' = w.alloc (.cells #[.map mb] 302) :=
  (callsIn_wide (n := 5)).1 (AnyZ.keys_in keysLays Fence.wide 5 trivial rfl mb w)
theorem collect35 (b nn B : Nat) (D0 : DataW H) (R : Value -> Option (DataW H × List MemPlace)) (w : World) (hcell : w.cell? ⟨B, 0, none⟩ = some (.map (some b))) (hB : B < w.heap.size) (hown : w.ownsMap prog 9 R b nn D0) (hmax : Maps.size D0 <= maxLen) (hbytes : Maps.size D0 * 16 <= 140737488355328) :
    Calls prog 257 #[.func (.func 259) #[] #[.pointer (some ⟨B, 0, none⟩)]] w fun e w' => ∃ (v : Value) (ss : List (List UInt8)), e = .returned v /\ ss.Perm (strKeys D0) /\
      w'.ownsRow w.heap.size 9 1 v ss.length (ss.map encStr) /\ (v = .slice none 0 0 ↔ ss = []) /\ Below w.heap.size w w' := by
  have hseq : SeqGives Fence.wide 3 prog 259 #[.pointer (some ⟨B, 0, none⟩)] encStr (fun ss => ss.Perm (strKeys D0)) (Maps.size D0) w :=
    AnyZ.keys_gives (ρ := keysRen) { keysLays with } Fence.wide _ trivial rfl (by omega) B b nn D0 _ hB hcell hown
  exact (callsIn_wide (n := 5)).1 (AnyZ.collect_in collectLays Fence.wide 5 trivial trivial rfl (by omega) 259 #[.pointer (some ⟨B, 0, none⟩)] trivial (enters_of Tryz.func259 (by kernel_rfl) rfl) _ _ hmax hbytes _ hseq)
end
def bA (x : List UInt8) : ByteArray := ⟨x.toArray⟩
def cfB (x y : List UInt8) : Int := cmpS (bA x) (bA y)
theorem ltOf_cfB (x y : List UInt8) : ltOf cfB x y = ltS (bA x) (bA y) := cmpS_neg _ _
theorem swoB : SWO (ltOf cfB) where
  irrefl x := by rw [ltOf_cfB]; exact ltS_irrefl _
  trans x y z h k := by rw [ltOf_cfB] at *; exact ltS_trans h k
  ntrans x y z h k := by
    rw [ltOf_cfB] at *
    cases e : ltS (bA x) (bA z) with
    | false => rfl
    | true =>
      by_cases hxy : bA x = bA y
      · rw [hxy] at e; rw [e] at k; exact k
      · have h1 := ltS_of_not hxy h
        have h2 := ltS_trans h1 e
        rw [h2] at k; exact k
theorem antiB : ∀ x y, ltOf cfB x y = false -> ltOf cfB y x = false -> x = y := fun x y h k => by
  rw [ltOf_cfB] at h k
  have := ltS_total h k
  have h2 : bys (bA x) = bys (bA y) := by rw [this]
  exact h2
theorem cmpReads32 (blk off size : Nat) (w : World) : CmpReads prog 183 #[] encStr cfB blk off size w :=
  fun _ _ _ _ x y => (cmpstr (bA x) (bA y) _).mono fun _ _ ⟨he, hw⟩ => ⟨he, 0, hw.symm⟩
theorem sort36 (blk cap : Nat) (ss : List (List UInt8)) (w : World) (hH : Holds encStr w blk 0 ss.toArray) (hblk : blk < w.heap.size) (hsz : ss.length < 4611686018427387904) :
    Calls prog 258 #[.slice (some ⟨blk, 0, none⟩) ss.length cap, .func (.func 183) #[] #[]] w fun e w' => e = .returned (.tuple #[]) /\
      ∃ (ts : List (List UInt8)) (n : Nat) (os : Array Obj), ts.Perm ss /\ ts.Pairwise (fun a b => ltS (bA b) (bA a) = false) /\ w' = grow (putRow encStr (Sort.ahead w n) blk 0 ts.toArray) os := by
  have eg : ∀ args w, (callFunc 183 args).run prog w = .ok (.enter 183 args) w := enters_of Tryz.func183 (by kernel_rfl) rfl
  have hcon := Any.slices_SortFunc sortLays encStr (fun _ => rfl) cfB swoB 183 #[] blk 0 cap ss.toArray w eg (cmpReads32 blk 0 ss.toArray.size w).lays hH hblk (by simpa using hsz)
  change Calls prog 258 _ _ _ at hcon
  refine hcon.mono ?_
  rintro e w' ⟨rfl, d', n, os, hp, hs, rfl⟩
  have hd := sorted_unique_holds (lt := ltOf cfB) swoB antiB _ d' hp hs
  refine ⟨rfl, ss.mergeSort (fun x y => !(ltOf cfB) y x), n, os, List.mergeSort_perm _ _, ?_, ?_⟩
  · have tr : ∀ a b c : List UInt8, (!(ltOf cfB) b a) = true -> (!(ltOf cfB) c b) = true -> (!(ltOf cfB) c a) = true := fun a b c h1 h2 => by
      simp only [Bool.not_eq_true'] at *
      exact swoB.ntrans _ _ _ h2 h1
    have tt : ∀ a b : List UInt8, ((!(ltOf cfB) b a) || (!(ltOf cfB) a b)) = true := fun a b => by
      cases h1 : ltOf cfB b a with
      | false => simp
      | true =>
        have : ltOf cfB a b = false := by rw [ltOf_cfB] at *; exact ltS_asymm h1
        simp [this]
    refine (List.pairwise_mergeSort tr tt ss).imp (fun {a b} h => ?_)
    rw [<- ltOf_cfB]
    simpa using h
  · rw [<- hd]
    rfl
theorem ins44_none (p : Option Addr) (cap : Nat) (fv : Value) (w : World) :
    Calls prog 353 #[.slice p 0 cap, .int .i64 0, .int .i64 0, fv] w fun e w' => e = .returned (.tuple #[]) /\ w' = w := by
  go_enter Tryz.func353, Tryz.ntmps353
  go_wp2
  refine wp_loop_rounds 1 ?_
  rw [rounds_succ]
  go_wp2
  go_end0
  exact ⟨rfl, rfl⟩
theorem pdq42_none (p : Option Addr) (cap : Nat) (lim : Int) (fv : Value) (w : World) :
    Calls prog 314 #[.slice p 0 cap, .int .i64 0, .int .i64 0, .int .i64 lim, fv] w fun e w' => e = .returned (.tuple #[]) /\ w' = w := by
  go_enter Tryz.func314, Tryz.ntmps314
  go_wp2
  refine wp_loop_rounds 1 ?_
  rw [rounds_succ]
  go_wp2_with (go_at_call 353; refine (ins44_none _ _ _ _).mono ?_; rintro e w' ⟨rfl, rfl⟩)
  (try simp only [Exit.inBlock, Exit.then]); refine bodyPost_ret (results_none rfl _ _ _) rfl ?_
  exact ⟨rfl, rfl⟩
theorem len43_zero (w : World) : Calls prog 269 #[.int .u64 0] w fun e w' => e = .returned (.int .i64 (Lib.bitLen 0 : Nat)) /\ w' = w := by
  have h := Any.bits_Len (SlLaysF0.n15.bits (P := prog) (ρ := sortRen) { sortLays with }) 0 w (by omega) (by omega)
  exact h
theorem sort36_none (p : Option Addr) (cap : Nat) (fv : Value) (w : World) :
    Calls prog 258 #[.slice p 0 cap, fv] w fun e w' => e = .returned (.tuple #[]) /\ w' = w := by
  go_enter Tryz.func258, Tryz.ntmps258
  go_wp2_with (first | (go_at_call 269; refine (len43_zero _).mono ?_; rintro e w' ⟨rfl, rfl⟩) | (go_at_call 314; refine (pdq42_none _ _ _ _ _).mono ?_; rintro e w' ⟨rfl, rfl⟩))
  go_end0
  exact ⟨rfl, rfl⟩
section
variable {H : Type}
theorem encStr_bA (ss : List (List UInt8)) : ss.map encStr = (ss.map bA).map Value.string := by
  rw [List.map_map]
  rfl
theorem bys_map (ss : List (List UInt8)) : (ss.map bA).map bys = ss := by
  rw [List.map_map]
  conv => rhs; rw [<- List.map_id ss]
  rfl
theorem strKeys_len (D : DataW H) : (strKeys D).length = Maps.size D := by
  cases D <;> simp [strKeys, Maps.size]
theorem sorted30 (b nn B : Nat) (D0 : DataW H) (R : Value -> Option (DataW H × List MemPlace)) (w : World) (hcell : w.cell? ⟨B, 0, none⟩ = some (.map (some b))) (hB : B < w.heap.size) (hown : w.ownsMap prog 9 R b nn D0) (hmax : Maps.size D0 <= 1073741824) :
    Calls prog 181 #[.func (.func 259) #[] #[.pointer (some ⟨B, 0, none⟩)], .func (.func 183) #[] #[]] w fun e w' =>
      ∃ (v : Value) (ks : List ByteArray), e = .returned v /\ (ks.map bys).Perm (strKeys D0) /\ ks.Pairwise (fun a b => ltS b a = false) /\ w'.ownsRow w.heap.size 9 1 v ks.length (ks.map Value.string) /\ Below w.heap.size w w' := by
  have CO := hid (collect35 b nn B D0 R w hcell hB hown (by unfold maxLen; omega) (by omega))
  have HM := hmax
  clear hcell hown hmax
  go_enter Tryz.func181, Tryz.ntmps181
  go_wp2_with fail
  with_reducible refine CO.out.mono ?_
  rintro e w1 ⟨v, ss, rfl, hp, hrow, hnil, hb⟩
  have hln : ss.length <= 1073741824 := by rw [hp.length_eq, strKeys_len]; exact HM
  rcases hrow.2 with ⟨rfl, hz⟩ | ⟨g, cap, cur, rfl, hbase, hgb, r1, r2, r3, r4⟩
  · have hss : ss = [] := List.eq_nil_of_length_eq_zero hz
    subst hss
    have HP := hid hp
    have HB := hid hb
    have HR := hid hrow
    clear hp hb hrow hnil CO
    go_wp2_with fail
    with_reducible refine (sort36_none none 0 _ w1).mono ?_
    rintro e w2 ⟨rfl, rfl⟩
    go_wp2_with fail
    go_ret
    exact ⟨.slice none 0 0, [], rfl, HP.out, List.Pairwise.nil, HR.out, HB.out⟩
  · have hH : Holds encStr w1 g 0 ss.toArray := holds_of_block hgb (by simpa using r4)
    have hgl : g < w1.heap.size := (Array.getElem?_eq_some_iff.1 hgb).1
    have hsz : ss.length < 4611686018427387904 := by omega
    have SO := hid (sort36 g cap ss w1 hH hgl hsz)
    have HP := hid hp
    have HB := hid hb
    have HG := hid hgb
    clear hp hb hrow hnil hH hgb r4 CO
    go_wp2_with fail
    with_reducible refine SO.out.mono ?_
    rintro e w2 ⟨rfl, ts, n, os, tp, tw, hw2⟩
    have HE := hid hw2
    clear hw2
    go_wp2_with fail
    go_ret
    have hl : ts.length = ss.length := tp.length_eq
    have hw2 := HE.out
    subst hw2
    refine ⟨_, ts.map bA, rfl, ?_, ?_, ?_, HB.out.grown (grownBy_sorted _) HB.out.size (fun j hj => by cases hj; exact hbase)⟩
    · rw [bys_map]; exact tp.trans HP.out
    · exact List.pairwise_map.2 tw
    · rw [<- encStr_bA, List.length_map, hl]
      exact ownsRow_sorted hl hbase HG.out r1 r2 r3
end
end Go.Proofs.YtbikkioipamlmaaGreatDoor.T16
namespace Go.Proofs.YtbikkioipamlmaaGreatDoor.T16
open Go.Maps Go.RowKit
theorem strK : Keyed prog 9 := string_keyed Tryz.underlying9
theorem keyK {k : ByteArray} (h : k.size <= maxLen) : keyOf prog 9 (.string k) = some (klit k) := WideMaps.keyOf_string_mk Tryz.underlying9 h
theorem mapE : prog.underlying 302 = some (.map 9 110) := Tryz.underlying302
theorem zeroE (w : World) : (zeroValue 110).run prog w = .ok (entV ent0) w := Tryz.zeroValue110 w
theorem own_below {w w' : World} {H : Type} {k : TypeId} {R : Value -> Option (DataW H × List MemPlace)} {b n : Nat} {D : DataW H} (h : w.ownsMap prog k R b n D) (hb : Below w.heap.size w w') : w'.ownsMap prog k R b n D := by
  have hlt := h.lt
  obtain ⟨es, clock, h1, F, hs, hD⟩ := h
  exact ⟨es, clock, (hb.block b hlt).trans h1, F, hs, hD⟩
structure GaR (w wr : World) (s0 s1 : Value) (ps : List Pr) : Prop where
  bel : Below w.heap.size w wr
  own : wr.ownsMap prog 9 entR w.heap.size ps.length (datum ps)
  blk : wr.heap[w.heap.size + 1]? = some (.cells #[s0, s1] 303 (0, 0))
theorem GaR.drewN {w wr : World} {s0 s1 : Value} {ps : List Pr} (h : GaR w wr s0 s1 ps) (n : Nat) : GaR w (wr.drewN n) s0 s1 ps := ⟨below_drewN h.bel n, h.own, h.blk⟩
theorem GaR.alloc {w wr : World} {s0 s1 : Value} {ps : List Pr} (h : GaR w wr s0 s1 ps) (o : Obj) : GaR w (wr.alloc o) s0 s1 ps :=
  ⟨h.bel.alloc h.bel.size o, h.own.alloc o, (Below.heap_alloc wr o _ (lB h.blk)).trans h.blk⟩
theorem GaR.put {w wr w1 : World} {s0 s1 : Value} {ps : List Pr} (h : GaR w wr s0 s1 ps) {x : Pr} (own1 : w1.ownsMap prog 9 entR w.heap.size (ps.length + 1) ((datum ps).put (klit x.key) (.held x.en))) (g : wr.grownBy w1 (some w.heap.size)) : GaR w w1 s0 s1 (ps ++ [x]) := by
  refine ⟨h.bel.grown g h.bel.size (fun j hj => by cases hj; exact Nat.le_refl _), ?_, (g.block _ (lB h.blk) (by simp)).trans h.blk⟩
  rw [datum_snoc, List.length_append]
  exact own1
structure OuR (w wr : World) (v : Value) (qs : List Pr) : Prop where
  bel : Below w.heap.size w wr
  own : wr.ownsRow w.heap.size 112 6 v qs.length (pairsC qs)
theorem OuR.app {w wr w1 : World} {v v1 : Value} {qs : List Pr} {x : Pr} {o : Obj} (h : OuR w wr v qs) (own1 : w1.ownsRow w.heap.size 112 6 v1 (qs.length + 1) (pairsC qs ++ prC x)) (g : (wr.alloc o).grownBy w1 v.ownBlock) : OuR w w1 v1 (qs ++ [x]) := by
  refine ⟨(h.bel.alloc h.bel.size o).grown g (h.bel.alloc h.bel.size o).size (fun j hj => (h.own.lt j hj).1), ?_⟩
  rw [List.length_append, pairsC_append, pairsC_one]
  exact own1
def PairsE (w : World) (T : Tab) (e : Ending) (w' : World) : Prop :=
  ∃ v qs, e = .returned v /\ Asc qs /\ qs.Perm (prs T) /\ w'.ownsRow w.heap.size 112 6 v qs.length (pairsC qs) /\ Below w.heap.size w w'
def accP (T : Tab) (k : Nat) : List Pr := if k = 0 then [] else if k = 1 then prsOf T.now else prs T
theorem selP {w : World} {T : Tab} {an ao : Option Addr} {cn co : Nat} (hn : Vals w an (placesC T.now)) (ho : Vals w ao (placesC T.old)) (hn1 : T.now.length <= cn) (ho1 : T.old.length <= co) (hn2 : cn <= maxLen) (ho2 : co <= maxLen) (k : Nat) (hk : k < 2) :
    ∃ a l cap, (#[Value.slice an T.now.length cn, .slice ao T.old.length co] : Array Value)[k]? = some (.slice a l.length cap) /\ Vals w a (placesC l) /\ l.length <= cap /\ cap <= maxLen /\ accP T (k + 1) = accP T k ++ prsOf l /\ (∀ p ∈ l, p.st = 1 -> Has T p.key p.en) := by
  have hm : ∀ (l : List Pl) p, p ∈ l -> p.st = 1 -> HasK l p.key p.en := fun l p hp h1 => by
    obtain ⟨i, hi⟩ := List.mem_iff_getElem?.1 hp
    exact ⟨i, p, hi, h1, rfl, rfl⟩
  rcases (by omega : k = 0 \/ k = 1) with rfl | rfl
  · exact ⟨an, T.now, cn, rfl, hn, hn1, hn2, rfl, fun p hp h1 => .inl (hm _ p hp h1)⟩
  · exact ⟨ao, T.old, co, rfl, ho, ho1, ho2, rfl, fun p hp h1 => .inr (hm _ p hp h1)⟩
theorem accP_le {T : Tab} (hI : TI T) (k : Nat) : (accP T k).length <= 1073741824 := by
  have h1 := prs_length hI
  have h2 := hI.len_le
  unfold accP
  split
  · simp
  · split
    · have : (prsOf T.now).length <= (prs T).length := by unfold prs; rw [List.length_append]; omega
      omega
    · omega
theorem take_snoc {α : Type} (l : List α) (i : Nat) (x : α) (h : l[i]? = some x) : l.take (i + 1) = l.take i ++ [x] := by
  rw [List.take_add_one, h]; rfl
theorem prsOf_take_le (l : List Pl) (i : Nat) : (prsOf (l.take i)).length <= (prsOf l).length := by
  have h : prsOf l = prsOf (l.take i) ++ prsOf (l.drop i) := by
    conv => lhs; rw [<- List.take_append_drop i l]
    unfold prsOf
    rw [List.filterMap_append]
  rw [h, List.length_append]
  omega
theorem keys_perm {w : World} {b n : Nat} {ps : List Pr} (hown : w.ownsMap prog 9 entR b n (datum ps)) (ha : Apart ps) : (ps.map (fun p => bys p.key)).Perm (strKeys (datum ps)) := by
  have hC : Collected (datum ps) (fun _ => false) (ps.map (fun p => bys p.key)) := by
    refine ⟨List.pairwise_map.2 (ha.imp (fun h e => h (bys_inj e))), fun x => ?_⟩
    have h := (datum_all ps).2.1 (bA x)
    rw [show Lit.string x = klit (bA x) from rfl, h, List.mem_map]
    constructor
    · rintro ⟨p, hp, rfl⟩; exact ⟨⟨p, hp, rfl⟩, rfl⟩
    · rintro ⟨⟨p, hp, hk⟩, _⟩; exact ⟨p, hp, by rw [hk]; rfl⟩
  exact hC.perm hown strK Tryz.underlying9 (fun _ => rfl)
theorem ks_perm {ks : List ByteArray} {ps : List Pr} {D : DataW Ent} (h : (ks.map bys).Perm (strKeys D)) (h2 : (ps.map (fun p => bys p.key)).Perm (strKeys D)) : ks.Perm (ps.map Pr.key) := by
  have h3 := (h.trans h2.symm).map bA
  rw [List.map_map, List.map_map] at h3
  have e1 : ks.map (bA ∘ bys) = ks := by conv => rhs; rw [← List.map_id ks]
                                         rfl
  rw [e1] at h3
  exact h3
theorem look_pr {w : World} {b n : Nat} {ps : List Pr} (hown : w.ownsMap prog 9 entR b n (datum ps)) (ha : Apart ps) {x : Pr} (hx : x ∈ ps) (hk : x.key.size <= maxLen) :
    (Instr.lookup 302 (.map (some b)) (.string x.key) false).run prog w = .ok (.agg #[.int .i64 x.en.seq, .int .i64 x.en.off, .int .i64 x.en.len, .int .i64 x.en.exp, .bool x.en.hit]) w := by
  obtain ⟨u, q, hrun, hR⟩ := hown.lookup strK mapE (zeroE w) (entR_mk ent0) (keyK hk)
  rw [((datum_all ps).2.2 ha).2 x hx] at hR
  obtain ⟨e, rfl, he⟩ := entR_inv hR
  injection he with he
  subst he
  exact hrun
theorem pairs21 (tb : Nat) (vn vo : Value) (T : Tab) (w : World) (h : Tb w tb vn vo T) (hI : TI T) :
    Calls prog 110 #[.pointer (some ⟨tb, 0, none⟩)] w (PairsE w T) := by
  obtain ⟨⟨_, t1, _, t3, _, _, _, _⟩, _⟩ := h.cells
  have htb := lB h.blk
  obtain ⟨an, cn, rfl, vn1, ln1, mn1, _⟩ := ownsRow_vals h.now
  obtain ⟨ao, co, rfl, vo1, lo1, mo1, _⟩ := ownsRow_vals h.old
  have SEL := hid (selP vn1 vo1 ln1 lo1 mn1 mo1)
  have TIH := hid hI
  have ACC := hid (accP_le hI)
  clear h hI vn1 vo1 ln1 lo1 mn1 mo1
  generalize T.now.length = nn at *
  generalize T.old.length = no at *
  go_enter Tryz.func110, Tryz.ntmps110
  have hm := run_makeMap (P := prog) 302 w
  go_upto_region 4 with fail
  go_cut [3, 24, 25, 26] (fun s3 s24 s25 s26 wx => s3 = .map (some w.heap.size) /\ s24 = .slice (some ⟨w.heap.size + 1, 0, none⟩) 2 2 /\ s25 = .int .i64 2 /\ s26 = .int .i64 0 /\ GaR w wx (.slice an nn cn) (.slice ao no co) [])
  case first =>
    have GS := hid (show GaR w ((w.alloc (.map #[] 0)).alloc (.cells #[.slice an nn cn, .slice ao no co] 303)) (.slice an nn cn) (.slice ao no co) [] from
      ⟨((Below.refl _ _).alloc (Nat.le_refl _) _).alloc (by simp) _, (World.ownsMap_made w prog _ _).alloc _, by
        show ((w.heap.push _).push _)[w.heap.size + 1]? = _
        rw [Array.getElem?_push, Array.size_push, if_pos rfl]⟩)
    go_region
    all_goals go_wp2_with fail
    all_goals go_meet
    all_goals exact ⟨rfl, rfl, rfl, rfl, GS.out.drewN _⟩
  case rest =>
    obtain ⟨rfl, rfl, rfl, rfl, ga⟩ := hcut
    have GA0 := hid ga
    clear ga t1 t3 hm htb
    go_wp2_with fail
    go_loopg [5, 26] 2 (fun gk _ iv wr => ∃ k : Nat, k <= 2 /\ iv = .int .i64 k /\ gk + k = 2 /\ GaR w wr (.slice an nn cn) (.slice ao no co) (accP T k))
    case atStart => exact ⟨0, by omega, rfl, rfl, GA0.out⟩
    case round =>
      obtain ⟨k, hk, rfl, hgk, hga⟩ := hrel
      have GK := hid hgk
      have GA := hid hga
      clear hgk hga GA0
      by_cases hlt : k < 2
      · obtain ⟨a, l, cap, hs, hv, hle, hmax, hacc, hhas⟩ := SEL.out k hlt
        unfold maxLen at hmax
        have hkk : (k : Int) < 2 := by omega
        have hc := qB (i := k) GA.out.blk
        rw [hs] at hc
        have hblt := lB GA.out.blk
        have HV := hid hv
        have HACC := hid hacc
        have HHAS := hid hhas
        have HLE := hid (show ∀ i, (accP T k ++ prsOf (l.take i)).length < maxLen from fun i => by
          have h1 := ACC.out (k + 1)
          rw [hacc, List.length_append] at h1
          have h2 := prsOf_take_le l i
          rw [List.length_append]
          unfold maxLen
          omega)
        obtain ⟨n, hn⟩ : ∃ n, l.length = n := ⟨_, rfl⟩
        have HN := hid hn
        rw [hn] at hc hle
        clear hs hv hacc hhas hn
        go_wp2_with fail
        go_loopg [7, 32] n (fun gk _ jv wr' => ∃ i : Nat, i <= n /\ jv = .int .i64 i /\ gk + i = n /\ GaR w wr' (.slice an nn cn) (.slice ao no co) (accP T k ++ prsOf (l.take i)))
        case atStart => exact ⟨0, by omega, rfl, by omega, by simpa [prsOf] using GA.out⟩
        case round =>
          obtain ⟨i, hi, rfl, hgk, hga⟩ := hrel
          have GK2 := hid hgk
          have G2 := hid hga
          clear hgk hga hc hblt
          by_cases hlt2 : i < n
          · obtain ⟨p, hp⟩ : ∃ p, l[i]? = some p := ⟨_, List.getElem?_eq_getElem (by have := HN.out; omega)⟩
            obtain ⟨g, off, rfl, hg, cc⟩ := Vals.place (HV.out.below G2.out.bel (Nat.le_refl _)) i p hp
            have q0 := cc 0 (by omega); have q1 := cc 1 (by omega); have q2 := cc 2 (by omega); have q3 := cc 3 (by omega); have q4 := cc 4 (by omega); have q5 := cc 5 (by omega); have q6 := cc 6 (by omega)
            simp only [plC, entC, List.getElem?_cons_zero, List.getElem?_cons_succ, Nat.add_zero, <- Nat.add_assoc] at q0 q1 q2 q3 q4 q5 q6
            have hii : (i : Int) < n := by omega
            have PM := hid (List.mem_of_getElem? hp)
            have TS := hid (take_snoc l i p hp)
            have G3 := hid (G2.out.alloc (.cells #[.int .i64 (p.st : Int), .string p.key, .int .i64 p.en.seq, .int .i64 p.en.off, .int .i64 p.en.len, .int .i64 p.en.exp, .bool p.en.hit] 310))
            clear cc hp
            by_cases h1 : p.st = 1
            · have hb : ((p.st : Int) == 1) = true := by rw [h1]; rfl
              have HK := hid (keyK (k := p.key) (by have := TIH.out.ks _ _ (HHAS.out p PM.out h1); unfold maxLen; exact this))
              have H1 := hid h1
              have hml := HLE.out i
              have OM := hid G3.out.own
              clear h1
              go_wp2_with (first | (at_mapUpdate; (refine wpList_mapUpdate_own _ rfl _ _ _ 302 rfl 9 110 strK mapE entR w.heap.size (accP T k ++ prsOf (l.take i)).length _ rfl OM.out hml _ _ (klit p.key) rfl rfl HK.out (.held p.en) [] (entR_mk p.en) ?_); intro w2 hown2 hgrow2; refine Stop.out ?_) | fail)
              refine Stop.of ?_
              have G4 := hid (G3.out.put (x := ⟨p.key, p.en⟩) hown2 hgrow2)
              clear hown2 hgrow2 q0 q1 q2 q3 q4 q5 q6 hg
              go_wp2_with fail
              go_roundg (n - (i + 1))
              case measure => have := GK2.out; omega
              case rel => exact ⟨i + 1, by omega, by go_num, by omega, by rw [TS.out, prsOf_snoc, if_pos H1.out, <- List.append_assoc]; exact G4.out⟩
            · have hb : ((p.st : Int) == 1) = false := by
                rw [beq_eq_false_iff_ne]
                omega
              have H1 := hid h1
              clear h1
              go_wp2_with fail
              go_roundg (n - (i + 1))
              case measure => have := GK2.out; omega
              case rel => exact ⟨i + 1, by omega, by go_num, by omega, by rw [TS.out, prsOf_snoc, if_neg H1.out, List.append_nil]; exact G3.out⟩
          · obtain rfl : i = n := by omega
            have G3 := hid (show GaR w wr (.slice an nn cn) (.slice ao no co) (accP T (k + 1)) from by
              have := G2.out
              rw [List.take_of_length_le (by have := HN.out; omega)] at this
              rw [HACC.out]; exact this)
            go_wp2_with fail
            go_roundg (2 - (k + 1))
            case measure => have := GK.out; omega
            case rel => exact ⟨k + 1, by omega, by go_num, by omega, G3.out⟩
      · obtain rfl : k = 2 := by omega
        have G := hid (show GaR w wr (.slice an nn cn) (.slice ao no co) (prs T) from GA.out)
        have AP := hid (prs_apart TIH.out)
        have SZ := hid (show Maps.size (datum (prs T)) <= 1073741824 from by rw [((datum_all (prs T)).2.2 AP.out).1]; exact ACC.out 2)
        clear GA ACC SEL GK
        go_wp2_with fail
        with_reducible refine (keys31 _ _).mono ?_
        rintro e w1 ⟨rfl, rfl⟩
        have G1 := hid (G.out.alloc (.cells #[.map (some w.heap.size)] 302))
        have SO := hid (sorted30 w.heap.size (prs T).length wr.heap.size (datum (prs T)) entR (wr.alloc (.cells #[.map (some w.heap.size)] 302)) (by
          have hx : (wr.alloc (.cells #[.map (some w.heap.size)] 302)).heap[wr.heap.size]? = some (.cells #[.map (some w.heap.size)] 302 (0, 0)) := by
            show (wr.heap.push _)[wr.heap.size]? = _
            simp
          exact qB hx) (by simp) G1.out.own SZ.out)
        generalize (wr.alloc (.cells #[.map (some w.heap.size)] 302)) = w1 at *
        go_wp2_with fail
        with_reducible refine SO.out.mono ?_
        rintro e w2 ⟨kv, ks, rfl, hp, hs, hrow, hb⟩
        obtain ⟨qs, q1, q2, q3⟩ := pairs_sorted AP.out (ks_perm hp (keys_perm G1.out.own AP.out)) hs
        have OWN := hid (own_below G1.out.own hb)
        have BEL := hid (tB (show Below w1.heap.size w1 w1 from Below.refl _ _) hb)
        have BW := hid (G1.out.bel.trans (hb.mono G1.out.bel.size))
        have Q1 := hid q1
        have Q2 := hid q2
        have Q3 := hid q3
        obtain ⟨ka, kc, rfl, kvals, kle, kmax, _⟩ := ownsRow_vals hrow
        have KV := hid kvals
        obtain ⟨n, hn⟩ : ∃ n, ks.length = n := ⟨_, rfl⟩
        have HN := hid hn
        have HQ := hid (show qs.length = n from by rw [<- hn, <- q3, List.length_map])
        have hn30 : n <= 1073741824 := by
          have h1 := q1.length_eq
          have h2 := prs_length TIH.out
          have h3 := TIH.out.len_le
          have h4 := HQ.out
          omega
        rw [hn] at kle ⊢
        obtain ⟨i0, hi, hz0, hz1, hz2⟩ := info_parts prinfo
        have I1 := hid hi; have I2 := hid hz0; have I3 := hid hz1; have I4 := hid hz2
        clear hi hz0 hz1 hz2 hp hs hrow hb q1 q2 q3 kvals kmax hn SO G G1 SZ
        go_wp2_with fail
        go_loopg [8, 10, 50] n (fun gk ov _ iv wr' => ∃ (i : Nat) (v' : Value), v' = ov /\ i <= n /\ iv = .int .i64 i /\ gk + i = n /\ OuR w2 wr' v' (qs.take i))
        case atStart => exact ⟨0, _, rfl, by omega, rfl, by omega, ⟨Below.refl _ _, own_nil _ _ _ _⟩⟩
        case round =>
          obtain ⟨i, v', rfl, hi, rfl, hgk, ho⟩ := hrel
          have GK := hid hgk
          have O := hid ho
          clear hgk ho
          by_cases hlt2 : i < n
          · obtain ⟨x, hx⟩ : ∃ x, qs[i]? = some x := ⟨_, List.getElem?_eq_getElem (by have := HQ.out; omega)⟩
            obtain ⟨g, off, rfl, hg, ck⟩ := (KV.out.below O.out.bel (Nat.le_refl _)).at i (v := .string x.key) (by rw [<- Q3.out, List.map_map, List.getElem?_map, hx]; rfl)
            have XM := hid (Q1.out.mem_iff.1 (List.mem_of_getElem? hx))
            have lk := look_pr (own_below OWN.out O.out.bel) AP.out XM.out (by have := TIH.out.ks _ _ (mem_prs.1 XM.out); unfold maxLen; exact this)
            have TS := hid (take_snoc qs i x hx)
            have hii : (i : Int) < n := by omega
            have hl : (qs.take i).length = i := by rw [List.length_take]; have := HQ.out; omega
            have OW := O.out.own
            rw [hl] at OW
            have OWH := hid OW
            have HL := hid hl
            clear hx OW hl
            go_wp2_with (at_builtin; refine Stop.out ?_)
            refine Stop.of (wpList_app rfl _ _ 60 rfl w2.heap.size 112 i0 (.agg #[.string ByteArray.empty, .int .i64 0, .int .i64 0, .int .i64 0, .int .i64 0, .bool false]) 6 56 Tryz.underlying60 I1.out I2.out I3.out I4.out rfl (by decide) _ i (pairsC (qs.take i)) rfl (OWH.out.alloc _) _ 1 [.string x.key, .int .i64 x.en.seq, .int .i64 x.en.off, .int .i64 x.en.len, .int .i64 x.en.exp, .bool x.en.hit] rfl (src_lit #[.string x.key, .int .i64 x.en.seq, .int .i64 x.en.off, .int .i64 x.en.len, .int .i64 x.en.exp, .bool x.en.hit] (0, 0) (heap_alloc_new wr _) rfl) (one6 x.key x.en) (by unfold maxLen; omega) (by omega) (by have := O.out.bel.size; simp; omega) ?_)
            intro v2 w3 hown3 hg3
            have O3 := hid (O.out.app (x := x) (by rw [HL.out]; exact hown3) hg3)
            clear hown3 hg3 ck lk hg
            go_wp2_with fail
            go_roundg (n - (i + 1))
            case measure => have := GK.out; omega
            case rel => exact ⟨i + 1, _, rfl, by omega, by go_num, by omega, by rw [TS.out]; exact O3.out⟩
          · obtain rfl : i = n := by omega
            have hl : qs.take i = qs := List.take_of_length_le (by have := HQ.out; omega)
            have O2 := hid (show OuR w2 wr v' qs from by have := O.out; rw [hl] at this; exact this)
            clear hl
            go_wp2_with fail
            go_ret
            exact ⟨v', qs, rfl, Q2.out, Q1.out, own_base O2.out.own BW.out.size, BW.out.trans (O2.out.bel.mono BW.out.size)⟩
end Go.Proofs.YtbikkioipamlmaaGreatDoor.T16
namespace Go.Proofs.YtbikkioipamlmaaGreatDoor.T16
open Go.RowKit
structure TbrP (w0 w : World) (tb : Nat) (vn vo : Value) (T : Tab) (a : Option Addr) (L : List Pr) : Prop where
  tb' : Tb w tb vn vo T
  ti : TI T
  new : ∀ j, tfoot tb vn vo j -> w0.heap.size <= j
  dis : ∀ b off, a = some ⟨b, off, none⟩ -> ¬ tfoot tb vn vo b
  vals : Vals w a (pairsC L)
  lt : ∀ b off, a = some ⟨b, off, none⟩ -> b < w.heap.size
  bel : Below w0.heap.size w0 w
def Tbr (w0 w : World) (tb : Nat) (T : Tab) (a : Option Addr) (L : List Pr) : Prop := ∃ vn vo, TbrP w0 w tb vn vo T a L
theorem Tbr.ti {w0 w : World} {tb : Nat} {T : Tab} {a : Option Addr} {L : List Pr} (h : Tbr w0 w tb T a L) : TI T := by obtain ⟨_, _, d⟩ := h; exact d.ti
theorem Tbr.bel {w0 w : World} {tb : Nat} {T : Tab} {a : Option Addr} {L : List Pr} (h : Tbr w0 w tb T a L) : Below w0.heap.size w0 w := by obtain ⟨_, _, d⟩ := h; exact d.bel
theorem Tbr.vals {w0 w : World} {tb : Nat} {T : Tab} {a : Option Addr} {L : List Pr} (h : Tbr w0 w tb T a L) : Vals w a (pairsC L) := by obtain ⟨_, _, d⟩ := h; exact d.vals
theorem pairs_ob (tb : Nat) (T : Tab) (w0 w : World) (h : Tob w0 w tb T) :
    Calls prog 110 #[.pointer (some ⟨tb, 0, none⟩)] w fun e w' => ∃ v qs, e = .returned v /\ ∃ a c n, v = .slice a n c /\ qs.length = n /\ Tbr w0 w' tb T a qs /\ Asc qs /\ qs.Perm (prs T) := by
  obtain ⟨vn, vo, t, ti, hn, hb⟩ := h
  refine (pairs21 tb vn vo T w t ti).mono ?_
  rintro e w' ⟨v, qs, rfl, h1, h2, h3, h4⟩
  obtain ⟨a, c, rfl, hv, _, _, _, h5, h6⟩ := ownsRow_vals h3
  refine ⟨_, qs, rfl, a, c, qs.length, rfl, rfl, ⟨vn, vo, t.below h4, ti, hn, fun b off e hj => ?_, hv, fun b off e => (h6 b off e).2.1, tB hb h4⟩, h1, h2⟩
  have h7 := (h6 b off e).1
  have h8 := t.lt b hj
  omega
theorem blk_ltO {w : World} {g : Nat} {o : Obj} (h : w.heap[g]? = some o) : g < w.heap.size := (Array.getElem?_eq_some_iff.1 h).1
structure TbxP (w0 w : World) (tb : Nat) (vn vo : Value) (T : Tab) (g : Nat) (o : Obj) : Prop where
  tb' : Tb w tb vn vo T
  ti : TI T
  new : ∀ j, tfoot tb vn vo j -> w0.heap.size <= j
  dis : ¬ tfoot tb vn vo g
  blk : w.heap[g]? = some o
  bel : Below w0.heap.size w0 w
def Tbx (w0 w : World) (tb : Nat) (T : Tab) (g : Nat) (o : Obj) : Prop := ∃ vn vo, TbxP w0 w tb vn vo T g o
theorem Tbx.bel {w0 w : World} {tb : Nat} {T : Tab} {g : Nat} {o : Obj} (h : Tbx w0 w tb T g o) : Below w0.heap.size w0 w := by obtain ⟨_, _, d⟩ := h; exact d.bel
theorem Tbx.blk {w0 w : World} {tb : Nat} {T : Tab} {g : Nat} {o : Obj} (h : Tbx w0 w tb T g o) : w.heap[g]? = some o := by obtain ⟨_, _, d⟩ := h; exact d.blk
theorem Tbx.tob {w0 w : World} {tb : Nat} {T : Tab} {g : Nat} {o : Obj} (h : Tbx w0 w tb T g o) : Tob w0 w tb T := by
  obtain ⟨vn, vo, d⟩ := h
  exact ⟨vn, vo, d.tb', d.ti, d.new, d.bel⟩
theorem tbx_mk {w0 w : World} {tb : Nat} {T : Tab} (h : Tob w0 w tb T) (o : Obj) : Tbx w0 (w.alloc o) tb T w.heap.size o := by
  obtain ⟨vn, vo, t, ti, hn, hb⟩ := h
  have hbx : Below w.heap.size w (w.alloc o) := (Below.refl _ _).alloc (Nat.le_refl _) _
  refine ⟨vn, vo, t.below hbx, ti, hn, fun hj => ?_, ?_, tB hb hbx⟩
  · have := t.lt _ hj; omega
  · show (w.heap.push _)[w.heap.size]? = _
    simp
theorem Tbx.below {w0 w w' : World} {tb : Nat} {T : Tab} {g : Nat} {o : Obj} (h : Tbx w0 w tb T g o) (hb : Below w.heap.size w w') : Tbx w0 w' tb T g o := by
  obtain ⟨vn, vo, d⟩ := h
  exact ⟨vn, vo, d.tb'.below hb, d.ti, d.new, d.dis, (hb.block g (blk_ltO d.blk)).trans d.blk, tB d.bel hb⟩
theorem TbxP.step {w0 w w1 w' : World} {tb : Nat} {vn vo vn' vo' : Value} {T T' : Tab} {g : Nat} {o : Obj} (h : TbxP w0 w tb vn vo T g o) (t : Tb w' tb vn' vo' T') (ti : TI T') (st : St w w' tb vn vo vn' vo') : Tbx w0 w' tb T' g o := by
  have hg := blk_ltO h.blk
  refine ⟨vn', vo', t, ti, fun j hj => ?_, fun hj => ?_, (st.fr.block g hg h.dis).trans h.blk, Fr.below h.bel st.fr h.bel.size h.new⟩
  · rcases st.own j hj with e | e
    · exact h.new j e
    · exact Nat.le_trans h.bel.size e
  · rcases st.own g hj with e | e
    · exact h.dis e
    · omega
theorem tbx_set (tb : Nat) (T : Tab) (g : Nat) (o : Obj) (k : ByteArray) (e : Ent) (w0 w : World) (h : Tbx w0 w tb T g o) (hk : k.size <= 9223372036854775807) (hs : T.tot <= 1000000) :
    Calls prog 132 #[.pointer (some ⟨tb, 0, none⟩), .string k, entV e] w fun e' w' => e' = .returned (.tuple #[]) /\ ∃ T', Tbx w0 w' tb T' g o /\ SetI T T' k e := by
  obtain ⟨vn, vo, d⟩ := h
  refine (set9 tb vn vo T k e w d.tb' d.ti hk hs).mono ?_
  rintro e' w' ⟨rfl, vn', vo', T', t, st, si⟩
  exact ⟨rfl, T', d.step (w1 := w) t si.ti st, si⟩
theorem tbx_del (tb : Nat) (T : Tab) (g : Nat) (o : Obj) (k : ByteArray) (w0 w : World) (h : Tbx w0 w tb T g o) (hk : k.size <= 9223372036854775807) :
    Calls prog 133 #[.pointer (some ⟨tb, 0, none⟩), .string k] w fun e' w' => ∃ b T', e' = .returned (.bool b) /\ Tbx w0 w' tb T' g o /\ DelI T T' k b := by
  obtain ⟨vn, vo, d⟩ := h
  refine (del13 tb vn vo T k w d.tb' d.ti hk).mono ?_
  rintro e' w' ⟨b, vo', T', rfl, t, st, si⟩
  exact ⟨b, T', rfl, d.step (w1 := w) t si.ti st, si⟩
theorem tbx_new (tb : Nat) (T : Tab) (g : Nat) (o : Obj) (w0 w : World) (h : Tbx w0 w tb T g o) :
    Calls prog 131 #[] w fun e' w' => ∃ tb' T', e' = .returned (.pointer (some ⟨tb', 0, none⟩)) /\ Tbx w0 w' tb' T' g o /\ T'.tot = 0 /\ ∀ k e, ¬ Has T' k e := by
  obtain ⟨vn, vo, d⟩ := h
  have hg := blk_ltO d.blk
  refine (new_ob w).mono ?_
  rintro e' w' ⟨tb', T', rfl, o1, n1, m1⟩
  obtain ⟨vn', vo', t, ti, hn, hb⟩ := o1
  exact ⟨tb', T', rfl, ⟨vn', vo', t, ti, fun j hj => Nat.le_trans d.bel.size (hn j hj), fun hj => by have := hn g hj; omega, (hb.block g hg).trans d.blk, tB d.bel hb⟩, n1, m1⟩
end Go.Proofs.YtbikkioipamlmaaGreatDoor.T16
