/-
  slices.SortedFunc(maps.Keys(m), cmp.Compare[string]): the keys of a map in ascending order.
-/
import Derived.Test.YtbfkhghegkiifaaKeysK
import Derived.Shelf.SlSortCmp.Whole1
import Derived.Test.YtbfkhghegkiifaaPairsPlain
import Derived.Sort.OwnSorted
import Derived.Sort.LotA
namespace Go.Proofs.Ytbfkhghegkiifaa
open Go.RowKit Go.Maps Go.Shelf Go.Sort
set_option linter.unusedVariables false
def bA (x : List UInt8) : ByteArray := ⟨x.toArray⟩
theorem bys_bA (x : List UInt8) : bys (bA x) = x := rfl
def cfB (x y : List UInt8) : Int := cmpS (bA x) (bA y)
theorem ltOf_cfB (x y : List UInt8) : ltOf cfB x y = ltS (bA x) (bA y) := cmpS_neg _ _
theorem swoB : SWO (ltOf cfB) where
  irrefl x := by rw [ltOf_cfB]; exact ltS_irrefl _
  trans x y z h k := by rw [ltOf_cfB] at *; exact ltS_trans h k
  ntrans x y z h k := by
    rw [ltOf_cfB] at *
    cases e : ltS (bA x) (bA z) with
    | false => rfl
    | true =>
      by_cases hxy : bA x = bA y
      · rw [hxy] at e; rw [e] at k; exact k
      · have h1 := ltS_of_not hxy h
        have h2 := ltS_trans h1 e
        rw [h2] at k; exact k
theorem antiB : ∀ x y, ltOf cfB x y = false → ltOf cfB y x = false → x = y := fun x y h k => by
  rw [ltOf_cfB] at h k
  have := ltS_total h k
  have h2 : bys (bA x) = bys (bA y) := by rw [this]
  exact h2
theorem cmpReads32 (blk off size : Nat) (w : World) : CmpReads Try.prog 29 #[] encStr cfB blk off size w :=
  fun _ _ _ _ x y => (cmpstr (bA x) (bA y) _).mono fun _ _ ⟨he, hw⟩ => ⟨he, 0, hw.symm⟩
theorem sort36 (blk cap : Nat) (ss : List (List UInt8)) (w : World) (hH : Holds encStr w blk 0 ss.toArray) (hblk : blk < w.heap.size) (hsz : ss.length < 4611686018427387904) :
    Calls Try.prog 35 #[.slice (some ⟨blk, 0, none⟩) ss.length cap, .func (.func 29) #[] #[]] w fun e w' => e = .returned (.tuple #[]) ∧
      ∃ (ts : List (List UInt8)) (n : Nat) (os : Array Obj), ts.Perm ss ∧ ts.Pairwise (fun a b => ltS (bA b) (bA a) = false) ∧ w' = grow (putRow encStr (Sort.ahead w n) blk 0 ts.toArray) os := by
  have eg : ∀ args w, (callFunc 29 args).run Try.prog w = .ok (.enter 29 args) w := enters_of Try.func29 (by kernel_rfl) rfl
  have hcon := Any.slices_SortFunc sortLays encStr (fun _ => rfl) cfB swoB 29 #[] blk 0 cap ss.toArray w eg (cmpReads32 blk 0 ss.toArray.size w).lays hH hblk (by simpa using hsz)
  change Calls Try.prog 35 _ _ _ at hcon
  refine hcon.mono ?_
  rintro e w' ⟨rfl, d', n, os, hp, hs, rfl⟩
  have hd := sorted_unique_holds (lt := ltOf cfB) swoB antiB _ d' hp hs
  refine ⟨rfl, ss.mergeSort (fun x y => !(ltOf cfB) y x), n, os, List.mergeSort_perm _ _, ?_, ?_⟩
  · have tr : ∀ a b c : List UInt8, (!(ltOf cfB) b a) = true → (!(ltOf cfB) c b) = true → (!(ltOf cfB) c a) = true := fun a b c h1 h2 => by
      simp only [Bool.not_eq_true'] at *
      exact swoB.ntrans _ _ _ h2 h1
    have tt : ∀ a b : List UInt8, ((!(ltOf cfB) b a) || (!(ltOf cfB) a b)) = true := fun a b => by
      cases h1 : ltOf cfB b a with
      | false => simp
      | true =>
        have : ltOf cfB a b = false := by rw [ltOf_cfB] at *; exact ltS_asymm h1
        simp [this]
    refine (List.pairwise_mergeSort tr tt ss).imp (fun {a b} h => ?_)
    rw [← ltOf_cfB]
    simpa using h
  · rw [← hd]
    rfl
/-- at no element nothing turns -/
theorem ins44_none (p : Option Addr) (cap : Nat) (fv : Value) (w : World) :
    Calls Try.prog 43 #[.slice p 0 cap, .int .i64 0, .int .i64 0, fv] w fun e w' => e = .returned (.tuple #[]) ∧ w' = w := by
  go_enter Try.func43, Try.ntmps43
  go_wp2
  refine wp_loop_rounds 1 ?_
  rw [rounds_succ]
  go_wp2
  go_end0
  exact ⟨rfl, rfl⟩
set_option maxHeartbeats 1000000 in
theorem pdq42_none (p : Option Addr) (cap : Nat) (lim : Int) (fv : Value) (w : World) :
    Calls Try.prog 41 #[.slice p 0 cap, .int .i64 0, .int .i64 0, .int .i64 lim, fv] w fun e w' => e = .returned (.tuple #[]) ∧ w' = w := by
  go_enter Try.func41, Try.ntmps41
  go_wp2
  refine wp_loop_rounds 1 ?_
  rw [rounds_succ]
  go_wp2_with (go_at_call 43; refine (ins44_none _ _ _ _).mono ?_; rintro e w' ⟨rfl, rfl⟩)
  (try simp only [Exit.inBlock, Exit.then]); refine bodyPost_ret (results_none rfl _ _ _) rfl ?_
  exact ⟨rfl, rfl⟩
theorem len43_zero (w : World) : Calls Try.prog 42 #[.int .u64 0] w fun e w' => e = .returned (.int .i64 (Lib.bitLen 0 : Nat)) ∧ w' = w := by
  have h := Any.bits_Len (SlLaysF0.n15.bits (P := Try.prog) (ρ := sortRen) { sortLays with }) 0 w (by omega) (by omega)
  exact h
set_option maxHeartbeats 1000000 in
theorem sort36_none (p : Option Addr) (cap : Nat) (fv : Value) (w : World) :
    Calls Try.prog 35 #[.slice p 0 cap, fv] w fun e w' => e = .returned (.tuple #[]) ∧ w' = w := by
  go_enter Try.func35, Try.ntmps35
  go_wp2_with (first | (go_at_call 42; refine (len43_zero _).mono ?_; rintro e w' ⟨rfl, rfl⟩) | (go_at_call 41; refine (pdq42_none _ _ _ _ _).mono ?_; rintro e w' ⟨rfl, rfl⟩))
  go_end0
  exact ⟨rfl, rfl⟩
section
variable {H : Type}
theorem encStr_bA (ss : List (List UInt8)) : ss.map encStr = (ss.map bA).map Value.string := by
  rw [List.map_map]
  rfl
theorem bys_map (ss : List (List UInt8)) : (ss.map bA).map bys = ss := by
  rw [List.map_map]
  conv => rhs; rw [← List.map_id ss]
  rfl
theorem strKeys_len (D : DataW H) : (strKeys D).length = Maps.size D := by
  cases D <;> simp [strKeys, Maps.size]
set_option maxHeartbeats 2000000 in
theorem sorted30 (b nn B : Nat) (D0 : DataW H) (R : Value → Option (DataW H × List MemPlace)) (w : World) (hcell : w.cell? ⟨B, 0, none⟩ = some (.map (some b))) (hB : B < w.heap.size) (hown : w.ownsMap Try.prog 9 R b nn D0) (hmax : Maps.size D0 ≤ 1073741824) :
    Calls Try.prog 27 #[.func (.func 36) #[] #[.pointer (some ⟨B, 0, none⟩)], .func (.func 29) #[] #[]] w fun e w' =>
      ∃ (v : Value) (ks : List ByteArray), e = .returned v ∧ (ks.map bys).Perm (strKeys D0) ∧ ks.Pairwise (fun a b => ltS b a = false) ∧ w'.ownsRow w.heap.size 9 1 v ks.length (ks.map Value.string) ∧ Below w.heap.size w w' := by
  have CO := Lib.hid (collect35 b nn B D0 R w hcell hB hown (by unfold maxLen; omega) (by omega))
  have HM := hmax
  clear hcell hown hmax
  go_enter Try.func27, Try.ntmps27
  go_wp2_with fail
  with_reducible refine CO.out.mono ?_
  rintro e w1 ⟨v, ss, rfl, hp, hrow, hnil, hb⟩
  have hln : ss.length ≤ 1073741824 := by rw [hp.length_eq, strKeys_len]; exact HM
  rcases hrow.2 with ⟨rfl, hz⟩ | ⟨g, cap, cur, rfl, hbase, hgb, r1, r2, r3, r4⟩
  · have hss : ss = [] := List.eq_nil_of_length_eq_zero hz
    subst hss
    have HP := Lib.hid hp
    have HB := Lib.hid hb
    have HR := Lib.hid hrow
    clear hp hb hrow hnil CO
    go_wp2_with fail
    with_reducible refine (sort36_none none 0 _ w1).mono ?_
    rintro e w2 ⟨rfl, rfl⟩
    go_wp2_with fail
    go_ret
    exact ⟨.slice none 0 0, [], rfl, HP.out, List.Pairwise.nil, HR.out, HB.out⟩
  · have hH : Holds encStr w1 g 0 ss.toArray := holds_of_block hgb (by simpa using r4)
    have hgl : g < w1.heap.size := (Array.getElem?_eq_some_iff.1 hgb).1
    have hsz : ss.length < 4611686018427387904 := by omega
    have SO := Lib.hid (sort36 g cap ss w1 hH hgl hsz)
    have HP := Lib.hid hp
    have HB := Lib.hid hb
    have HG := Lib.hid hgb
    clear hp hb hrow hnil hH hgb r4 CO
    go_wp2_with fail
    with_reducible refine SO.out.mono ?_
    rintro e w2 ⟨rfl, ts, n, os, tp, tw, hw2⟩
    have HE := Lib.hid hw2
    clear hw2
    go_wp2_with fail
    go_ret
    have hl : ts.length = ss.length := tp.length_eq
    have hw2 := HE.out
    subst hw2
    refine ⟨_, ts.map bA, rfl, ?_, ?_, ?_, HB.out.grown (grownBy_sorted _) HB.out.size (fun j hj => by cases hj; exact hbase)⟩
    · rw [bys_map]; exact tp.trans HP.out
    · exact List.pairwise_map.2 tw
    · rw [← encStr_bA, List.length_map, hl]
      exact ownsRow_sorted hl hbase HG.out r1 r2 r3
end
end Go.Proofs.Ytbfkhghegkiifaa
