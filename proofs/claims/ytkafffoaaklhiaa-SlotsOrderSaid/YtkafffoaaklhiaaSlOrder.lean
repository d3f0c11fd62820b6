/-
  The contracts of slots.Order and slots.Tail (fewer than 20 regions).
-/
import Derived.Test.YtkafffoaaklhiaaInsSort
import Derived.Lib.SliceRun
namespace Go.Proofs.Ytkafffoaaklhiaa
open Go.RowKit
set_option linter.unusedVariables false
theorem own_rebase {w w' : World} {B : Nat} {e : TypeId} {size : Nat} {v : Value} {n : Nat} {xs ys : List Value} (h0 : w.ownsRow B e size v n ys) (h : w'.ownsRow 0 e size v n xs) : w'.ownsRow B e size v n xs := by
  refine ⟨h.1, ?_⟩
  rcases h.2 with h2 | ⟨g, cap, cur, hv, hg, r⟩
  · exact .inl h2
  · exact .inr ⟨g, cap, cur, hv, (h0.lt g (by rw [hv]; rfl)).1, r⟩
theorem regC_one (l : List Reg) : ∀ u ∈ regC l, u.oneCell' = true := by
  induction l with
  | nil => intro u hu; cases hu
  | cons r l ih =>
    intro u hu
    rcases List.mem_append.1 hu with h | h
    · simp [Reg.cells] at h
      rcases h with rfl | rfl | rfl | rfl | rfl | rfl | rfl | rfl | rfl | rfl <;> rfl
    · exact ih u h
theorem reginfo : (Try.prog.info? 36).map (fun i => (i.zero, i.size, i.bytes)) = some (some (.agg #[.int .i64 0, .int .i64 0, .int .i64 0, .int .i64 0, .int .i64 0, .int .i64 0, .int .i64 0, .int .i64 0, .int .i64 0, .int .i64 0]), 10, 80) := by kernel_rfl
theorem own_empty (w : World) : (w.alloc (.cells #[] 36)).ownsRow w.heap.size 36 10 (.slice (some ⟨w.heap.size, 0, none⟩) 0 0) 0 [] :=
  ⟨rfl, .inr ⟨w.heap.size, 0, #[], rfl, Nat.le_refl _, by show (w.heap.push _)[w.heap.size]? = _; simp, Nat.le_refl _, by unfold maxLen; omega, rfl, rfl⟩⟩
theorem src_below {w w' : World} {size n cap : Nat} {ad : Addr} {vs : List Value} (h : Src w size (.slice (some ad) n cap) n vs) (hb : Below w.heap.size w w') : Src w' size (.slice (some ad) n cap) n vs := by
  refine ⟨h.1, .inr ?_⟩
  rcases h.2 with ⟨h1, _⟩ | ⟨ad', cap', h1, h2⟩
  · cases h1
  · refine ⟨ad', cap', h1, fun j u hu => ?_⟩
    have hc := h2 j u hu
    rw [hb.cell (World.block_lt_of_cell? w _ hc)]
    exact hc
set_option maxHeartbeats 1000000 in
theorem clone34 (a : Option Addr) (n cap : Nat) (l : List Reg) (w : World) (hl : l.length = n) (hn : n ≤ 1000) (hv : Vals w a (regC l)) (h0 : a = none → n = 0 ∧ cap = 0) :
    Calls Try.prog 34 #[.slice a n cap] w fun e w' => ∃ v, e = .returned v ∧ w'.ownsRow w.heap.size 36 10 v n (regC l) ∧ Below w.heap.size w w' := by
  have HS := Lib.hid (hv.src (m := n) (cap := cap) (size := 10) (by rw [regC_len, hl]) h0)
  have H1 := Lib.hid (regC_one l)
  obtain ⟨i0, hi, hz0, hz1, hz2⟩ := info_parts reginfo
  have I1 := Lib.hid hi; have I2 := Lib.hid hz0; have I3 := Lib.hid hz1; have I4 := Lib.hid hz2
  clear hi hz0 hz1 hz2
  have QN : ∀ (w : World) (a : Option Addr) (n c : Nat), (binOp .eql 24 (.slice a n c) (.slice none 0 0)).run Try.prog w = .ok (.bool a.isNone) w := fun w a n c => Lib.run_eql_slice_nil w _ _ a n c 0 0 Try.underlying24
  cases a with
  | none =>
    obtain ⟨rfl, rfl⟩ := h0 rfl
    have he : l = [] := List.eq_nil_of_length_eq_zero hl
    subst he
    clear hv h0 hl
    go_enter Try.func34, Try.ntmps34
    go_wp2_with fail
    go_ret
    exact ⟨_, rfl, World.ownsRow_nil _ _ _ _, Below.refl _ _⟩
  | some ad =>
    clear hv h0
    go_enter Try.func34, Try.ntmps34
    go_wp2_with (at_builtin; refine Stop.out ?_)
    refine Stop.of (wpList_app rfl _ _ 24 rfl w.heap.size 36 i0 (.agg #[.int .i64 0, .int .i64 0, .int .i64 0, .int .i64 0, .int .i64 0, .int .i64 0, .int .i64 0, .int .i64 0, .int .i64 0, .int .i64 0]) 10 80 Try.underlying24 I1.out I2.out I3.out I4.out rfl (by decide) (.slice (some ⟨w.heap.size, 0, none⟩) 0 0) 0 [] rfl (own_empty w) (.slice (some ad) n cap) n (regC l) rfl (src_below HS.out ((Below.refl _ _).alloc (Nat.le_refl _) _)) H1.out (by unfold maxLen; omega) (by omega) (by simp) ?_)
    intro v1 w1 hown hg
    rw [List.nil_append, Nat.zero_add] at hown
    have O1 := Lib.hid hown
    have B1 := Lib.hid (((Below.refl w.heap.size w).alloc (Nat.le_refl _) (.cells #[] 36)).grown hg (by simp) (fun j hj => by simp [Value.ownBlock] at hj; omega))
    clear hown hg
    go_wp2_with fail
    go_ret
    exact ⟨v1, rfl, O1.out, B1.out⟩
/-- the row that lies at v is sorted -/
def SortV (w w' : World) (v : Value) (n : Nat) (l : List Reg) : Prop := w'.ownsRow 0 36 10 v n (regC (sortR l)) ∧ Fr (fun j => v.ownBlock = some j) w w'
set_option maxHeartbeats 1000000 in
theorem ins_v (v : Value) (n : Nat) (l : List Reg) (w : World) (hl : l.length = n) (hn : n ≤ 1000) (hown : w.ownsRow 0 36 10 v n (regC l)) :
    Calls Try.prog 48 #[v, .int .i64 0, .int .i64 (n : Int), ordV] w fun e w' => e = .returned (.tuple #[]) ∧ SortV w w' v n l := by
  rcases hown.2 with ⟨rfl, h0⟩ | ⟨g, cap, cur, rfl, _⟩
  · have h00 : n = 0 := by have := hown.1; rw [h0] at this; simp at this; omega
    subst h00
    have he : l = [] := List.eq_nil_of_length_eq_zero hl
    subst he
    have Q := Lib.hid (show SortV w w (.slice none 0 0) 0 [] from ⟨hown, .refl _ _⟩)
    clear hown h0
    unfold ordV
    go_enter Try.func48, Try.ntmps48
    go_wp2_with fail
    go_loopg [8, 9] 0 (fun gk iv _ wr => iv = .int .i64 1 ∧ w = wr)
    case atStart => exact ⟨rfl, rfl⟩
    case round =>
      obtain ⟨rfl, rfl⟩ := hrel
      go_wp2_with fail
      go_end0
      exact ⟨rfl, Q.out⟩
  · refine (inssort g n cap l w hl hn hown).mono ?_
    rintro e w' ⟨rfl, h⟩
    exact ⟨rfl, h.own, h.fr.mono (fun j _ e => by rw [e]; rfl)⟩
set_option maxRecDepth 100000 in
set_option maxHeartbeats 1000000 in
theorem stable44 (v : Value) (n : Nat) (l : List Reg) (w : World) (hl : l.length = n) (hn : n < 20) (hown : w.ownsRow 0 36 10 v n (regC l)) :
    Calls Try.prog 44 #[v, .int .i64 (n : Int), ordV] w fun e w' => e = .returned (.tuple #[]) ∧ SortV w w' v n l := by
  have IS := Lib.hid (ins_v v n l w hl (by omega) hown)
  clear hown hl
  unfold ordV at *
  go_enter Try.func44, Try.ntmps44
  go_wp2_with fail
  go_loopg [7, 8] 0 (fun gk av bv wr => av = .int .i64 0 ∧ bv = .int .i64 20 ∧ w = wr)
  case atStart => exact ⟨rfl, rfl, rfl⟩
  case round =>
    obtain ⟨rfl, rfl, rfl⟩ := hrel
    go_wp2_with fail
    with_reducible refine IS.out.mono ?_
    rintro e w1 ⟨rfl, h1⟩
    have H1 := Lib.hid h1
    clear h1 IS
    go_wp2_with fail
    go_loopg [6, 7, 8, 9] 0 (fun gk bs _ _ _ wr => bs = .int .i64 20 ∧ w1 = wr)
    case atStart => exact ⟨rfl, rfl⟩
    case round =>
      obtain ⟨rfl, rfl⟩ := hrel
      go_wp2_with fail
      go_end0
      exact ⟨rfl, H1.out⟩
set_option maxHeartbeats 1000000 in
theorem sortst35 (v : Value) (n : Nat) (l : List Reg) (w : World) (hl : l.length = n) (hn : n < 20) (hown : w.ownsRow 0 36 10 v n (regC l)) :
    Calls Try.prog 35 #[v, ordV] w fun e w' => e = .returned (.tuple #[]) ∧ SortV w w' v n l := by
  have IS := Lib.hid (stable44 v n l w hl hn hown)
  obtain ⟨a, cap, rfl, _⟩ := ownsRow_vals hown
  clear hown hl
  unfold ordV at *
  go_enter Try.func35, Try.ntmps35
  go_wp2_with fail
  with_reducible refine IS.out.mono ?_
  rintro e w1 ⟨rfl, h1⟩
  have H1 := Lib.hid h1
  clear h1
  go_wp2_with fail
  go_end0
  exact ⟨rfl, H1.out⟩
/-- the regions l lie at a slice -/
def RegsL (w : World) (a : Option Addr) (l : List Reg) : Prop := Vals w a (regC l)
set_option maxHeartbeats 1000000 in
theorem order18 (a : Option Addr) (n cap : Nat) (l : List Reg) (w : World) (hl : l.length = n) (hn : n < 20) (hv : Vals w a (regC l)) (h0 : a = none → n = 0 ∧ cap = 0) :
    Calls Try.prog 18 #[.slice a n cap] w fun e w' => ∃ v, e = .returned v ∧ w'.ownsRow w.heap.size 36 10 v n (regC (sortR l)) ∧ Below w.heap.size w w' := by
  have CL := Lib.hid (clone34 a n cap l w hl (by omega) hv h0)
  have SS := Lib.hid (fun v W (h : World.ownsRow W 0 36 10 v n (regC l)) => sortst35 v n l W hl hn h)
  clear hv h0 hl
  unfold ordV at SS
  go_enter Try.func18, Try.ntmps18
  go_wp2_with fail
  with_reducible refine CL.out.mono ?_
  rintro e w1 ⟨v, rfl, hown, hb⟩
  have O1 := Lib.hid hown
  have B1 := Lib.hid hb
  have S1 := Lib.hid (SS.out v w1 (Joins.ownsRow_le hown (Nat.zero_le _)))
  clear hown hb
  go_wp2_with fail
  with_reducible refine S1.out.mono ?_
  rintro e w2 ⟨rfl, h2, f2⟩
  have O2 := Lib.hid (own_rebase O1.out h2)
  have B2 := Lib.hid (Fr.below B1.out f2 B1.out.size (fun k hk => (O1.out.lt k hk).1))
  clear h2 f2
  go_wp2_with fail
  go_ret
  exact ⟨v, rfl, O2.out, B2.out⟩
def tailD (l : List Reg) (next : Int) : Int := match sortR l with
  | [] => next
  | r :: _ => r.seq
set_option maxHeartbeats 1000000 in
theorem tail16 (a : Option Addr) (n cap : Nat) (l : List Reg) (next : Int) (w : World) (hl : l.length = n) (hn : n < 20) (hv : Vals w a (regC l)) (h0 : a = none → n = 0 ∧ cap = 0) :
    Calls Try.prog 16 #[.slice a n cap, .int .i64 next] w fun e w' => e = .returned (.int .i64 (tailD l next)) ∧ Below w.heap.size w w' := by
  have OR := Lib.hid (order18 a n cap l w hl hn hv h0)
  have hsl := (sort_all l).2.2
  obtain ⟨td, htd⟩ : ∃ d, tailD l next = d := ⟨_, rfl⟩
  have htd' := htd
  rw [htd]
  unfold tailD at htd'
  obtain ⟨S, hS⟩ : ∃ S, sortR l = S := ⟨_, rfl⟩
  rw [hS] at htd' hsl
  have SH := Lib.hid hS
  clear hv h0 htd hS
  go_enter Try.func16, Try.ntmps16
  go_wp2_with fail
  with_reducible refine OR.out.mono ?_
  rintro e w1 ⟨v, rfl, hown, hb⟩
  rw [SH.out] at hown
  have B1 := Lib.hid hb
  obtain ⟨g, cap', rfl, hvs, hcap, _⟩ := ownsRow_vals hown
  cases S with
  | nil =>
    have hn0 : n = 0 := by rw [← hl, ← hsl]; rfl
    subst hn0
    simp only at htd'
    subst htd'
    clear hown hvs OR hb
    go_wp2_with fail
    go_ret
    exact ⟨rfl, B1.out⟩
  | cons r S =>
    have hn0 : 0 < n := by rw [← hl, ← hsl]; simp
    simp only at htd'
    subst htd'
    obtain ⟨b, off, rfl, hb2, hc⟩ := hvs.at 3 (v := .int .i64 r.seq) rfl
    have hb0 : ((n : Int) == 0) = false := by simp; omega
    have hbI : (0 : Int) < n := by omega
    clear hown hvs OR hb
    go_wp2_with fail
    go_ret
    exact ⟨rfl, B1.out⟩
end Go.Proofs.Ytkafffoaaklhiaa
