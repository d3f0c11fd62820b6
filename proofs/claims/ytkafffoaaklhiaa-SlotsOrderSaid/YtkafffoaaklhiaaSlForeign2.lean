/-
  The contract of slots.Foreign.
-/
import Derived.Test.YtkafffoaaklhiaaSlForeign
namespace Go.Proofs.Ytkafffoaaklhiaa
open Go.RowKit
set_option linter.unusedVariables false
set_option maxHeartbeats 2000000 in
theorem fordelete_nil (t : Lay) (tb : Nat) (w : World) (ht : w.cell? ⟨tb, 0, none⟩ = some (.int .i64 t.id)) :
    Calls Try.prog 38 #[.slice none 0 0, .func (.func 39) #[] #[.pointer (some ⟨tb, 0, none⟩)]] w
      fun e w' => e = .returned (.slice none 0 0) ∧ Below w.heap.size w w' := by
  have IX := Lib.hid (forindex46 none 0 0 [] t.id tb w rfl (by omega) (fun i hi => by simp [regC] at hi) ht)
  rw [show idxD t.id [] 0 = -1 from rfl] at IX
  clear ht
  go_enter Try.func38, Try.ntmps38
  go_wp2_with fail
  with_reducible refine IX.out.mono ?_
  rintro e w1 ⟨rfl, hb1⟩
  have B1 := Lib.hid hb1
  clear hb1
  go_wp2_with fail
  go_ret
  exact ⟨rfl, B1.out⟩
def ForE (w : World) (R : List Reg) (e : Ending) (w' : World) : Prop := ∃ a c, e = .returned (.slice a R.length c) ∧ Vals w' a (regC R) ∧ Below w.heap.size w w'
set_option maxHeartbeats 2000000 in
theorem foreign22 (t : Lay) (a : Option Addr) (n cap : Nat) (l : List Reg) (w : World) (hl : l.length = n) (hn : n < 20) (hv : Vals w a (regC l)) (h0 : a = none → n = 0 ∧ cap = 0) :
    Calls Try.prog 22 #[.agg #[.int .i64 t.id, .int .i64 t.ver, .int .i64 t.rs, .int .i64 t.rg], .slice a n cap] w (ForE w (forD t (sortR l))) := by
  have OR := Lib.hid (order18 a n cap l (w.alloc (.cells #[.int .i64 t.id, .int .i64 t.ver, .int .i64 t.rs, .int .i64 t.rg] 23)) hl hn (hv.below ((Below.refl _ _).alloc (Nat.le_refl _) _) (Nat.le_refl _)) h0)
  have hsl := (sort_all l).2.2
  obtain ⟨S, hS⟩ : ∃ S, sortR l = S := ⟨_, rfl⟩
  rw [hS, hl] at hsl
  rw [hS] at OR ⊢
  have SL := Lib.hid hsl
  clear hv hl hS hsl h0
  go_enter Try.func22, Try.ntmps22
  go_wp2_with fail
  with_reducible refine OR.out.mono ?_
  rintro e w1 ⟨v, rfl, hown, hb⟩
  have hx : w1.cell? ⟨w.heap.size, 0, none⟩ = some (.int .i64 t.id) := by
    rw [hb.cell (p := ⟨w.heap.size, 0, none⟩) (by simp), World.cell?_alloc_at _ _ _ _ rfl]; rfl
  have B1 := Lib.hid (show Below w.heap.size w w1 from bel1 hb)
  rcases hown.2 with ⟨rfl, hz⟩ | ⟨g, cap', cur, rfl, hg, _⟩
  · have hn0 : n = 0 := by have := hown.1; rw [hz] at this; simp at this; omega
    subst hn0
    have hSn : S = [] := List.eq_nil_of_length_eq_zero SL.out
    subst hSn
    have DN := Lib.hid (fordelete_nil t w.heap.size w1 hx)
    clear hown hb hx OR hz
    go_wp2_with fail
    with_reducible refine DN.out.mono ?_
    rintro e w2 ⟨rfl, hb2⟩
    have B2 := Lib.hid (bel_trans B1.out hb2)
    clear hb2
    go_wp2_with fail
    go_ret
    exact ⟨none, 0, rfl, fun i hi => by simp [forD, regC] at hi, B2.out⟩
  · have DF := Lib.hid (fordelete38 t w.heap.size g n cap' S w1 SL.out hn (Joins.ownsRow_le hown (Nat.zero_le _)) hx (by simp at hg; omega))
    have HG := Lib.hid (show w.heap.size ≤ g from by simp at hg; omega)
    clear hown hb hx OR hg
    go_wp2_with fail
    with_reducible refine DF.out.mono ?_
    rintro e w2 ⟨m, c, rfl, rfl, hv2, hf2⟩
    have V2 := Lib.hid hv2
    have B2 := Lib.hid (Fr.below B1.out hf2 B1.out.size (fun k hk => by have := HG.out; omega))
    clear hv2 hf2
    go_wp2_with fail
    go_ret
    exact ⟨_, c, rfl, V2.out, B2.out⟩
end Go.Proofs.Ytkafffoaaklhiaa
