/-
  Selection: the first of the least of what is not yet taken is the head of the stable order of the rest.
-/
import Derived.Test.YtkafffoaaklhiaaSlBuild
namespace Go.Proofs.Ytkafffoaaklhiaa
open Go.RowKit
set_option linter.unusedVariables false
/-- the first of the least of the unused among the first k -/
def bestF (l : List Reg) (u : List Bool) : Nat → Option Nat
  | 0 => none
  | k + 1 => match bestF l u k with
    | none => if u[k]?.getD true = false then some k else none
    | some b => if u[k]?.getD true = false ∧ (l[k]?.getD reg0).seq < (l[b]?.getD reg0).seq then some k else some b
/-- what is not yet taken, in its order -/
def restF : List Reg → List Bool → List Reg
  | [], _ => []
  | r :: l, [] => r :: restF l []
  | r :: l, b :: u => if b = true then restF l u else r :: restF l u
theorem rest_split : ∀ (l : List Reg) (u : List Bool) (b : Nat) (r : Reg), u.length = l.length → l[b]? = some r → u[b]? = some false →
    ∃ A B, restF l u = A ++ r :: B ∧ restF l (u.set b true) = A ++ B ∧ (∀ x ∈ A, ∃ i : Nat, i < b ∧ l[i]? = some x ∧ u[i]? = some false) ∧ (∀ x ∈ B, ∃ i : Nat, b < i ∧ l[i]? = some x ∧ u[i]? = some false)
  | [], u, b, r, hl, hr, hu => by simp at hr
  | y :: l, [], b, r, hl, hr, hu => by simp at hl
  | y :: l, c :: u, 0, r, hl, hr, hu => by
    simp at hr hu
    subst hr hu
    refine ⟨[], restF l u, by simp [restF], by simp [restF], fun x hx => by (cases hx), fun x hx => ?_⟩
    have key : ∀ (l : List Reg) (u : List Bool), u.length = l.length → ∀ x ∈ restF l u, ∃ i : Nat, l[i]? = some x ∧ u[i]? = some false := by
      intro l
      induction l with
      | nil => intro u _ x hx; simp [restF] at hx
      | cons z l ih =>
        intro u hl x hx
        cases u with
        | nil => simp at hl
        | cons d u =>
          simp at hl
          unfold restF at hx
          split at hx
          · obtain ⟨i, h1, h2⟩ := ih u hl x hx
            exact ⟨i + 1, by simpa using h1, by simpa using h2⟩
          · rename_i hd
            rcases List.mem_cons.1 hx with rfl | hx
            · exact ⟨0, rfl, by simpa using hd⟩
            · obtain ⟨i, h1, h2⟩ := ih u hl x hx
              exact ⟨i + 1, by simpa using h1, by simpa using h2⟩
    obtain ⟨i, h1, h2⟩ := key l u (by simpa using hl) x hx
    exact ⟨i + 1, by omega, by simpa using h1, by simpa using h2⟩
  | y :: l, c :: u, b + 1, r, hl, hr, hu => by
    obtain ⟨A, B, h1, h2, h3, h4⟩ := rest_split l u b r (by simpa using hl) (by simpa using hr) (by simpa using hu)
    have h4' : ∀ x ∈ B, ∃ i, b + 1 < i ∧ (y :: l)[i]? = some x ∧ (c :: u)[i]? = some false := fun x hx => by
      obtain ⟨i, e1, e2, e3⟩ := h4 x hx
      exact ⟨i + 1, by omega, by simpa using e2, by simpa using e3⟩
    have h3' : ∀ x ∈ A, ∃ i, i < b + 1 ∧ (y :: l)[i]? = some x ∧ (c :: u)[i]? = some false := fun x hx => by
      obtain ⟨i, e1, e2, e3⟩ := h3 x hx
      exact ⟨i + 1, by omega, by simpa using e2, by simpa using e3⟩
    cases c with
    | true => exact ⟨A, B, by simp [restF, h1], by simp [restF, h2], h3', h4'⟩
    | false =>
      refine ⟨y :: A, B, by simp [restF, h1], by simp [restF, h2], fun x hx => ?_, h4'⟩
      rcases List.mem_cons.1 hx with rfl | hx
      · exact ⟨0, by omega, rfl, rfl⟩
      · exact h3' x hx
theorem insR_head {M : List Reg} {r : Reg} (h : ∀ x ∈ M, r.seq < x.seq) : insR M r = r :: M := by
  cases M with
  | nil => rfl
  | cons x M => unfold insR; rw [if_pos (h x List.mem_cons_self)]
theorem fold_head {r : Reg} : ∀ (B M : List Reg), (∀ x ∈ B, r.seq ≤ x.seq) → B.foldl insR (r :: M) = r :: B.foldl insR M
  | [], M, _ => rfl
  | x :: B, M, h => by
    rw [List.foldl_cons, List.foldl_cons]
    have e : insR (r :: M) x = r :: insR M x := by
      conv => lhs; unfold insR
      rw [if_neg (by have := h x List.mem_cons_self; omega)]
    rw [e]
    exact fold_head B _ (fun y hy => h y (List.mem_cons_of_mem _ hy))
theorem sort_head {A B : List Reg} {r : Reg} (hA : ∀ x ∈ A, r.seq < x.seq) (hB : ∀ x ∈ B, r.seq ≤ x.seq) : sortR (A ++ r :: B) = r :: sortR (A ++ B) := by
  unfold sortR
  rw [List.foldl_append, List.foldl_cons, List.foldl_append]
  have h : insR (A.foldl insR []) r = r :: A.foldl insR [] := insR_head (fun x hx => hA x ((sort_all A).2.1.mem_iff.1 hx))
  rw [h, fold_head B _ hB]
theorem best_none {l : List Reg} {u : List Bool} : ∀ {k : Nat}, bestF l u k = none → ∀ i, i < k → u[i]?.getD true = true
  | 0, _, i, hi => by omega
  | k + 1, h, i, hi => by
    unfold bestF at h
    split at h
    · rename_i hb
      split at h
      · cases h
      · rename_i hu
        by_cases e : i = k
        · subst e; simpa using hu
        · exact best_none hb i (by omega)
    · split at h <;> cases h
theorem best_some {l : List Reg} {u : List Bool} : ∀ {k b : Nat}, bestF l u k = some b → b < k ∧ u[b]?.getD true = false ∧ (∀ i, i < b → u[i]?.getD true = false → (l[b]?.getD reg0).seq < (l[i]?.getD reg0).seq) ∧ (∀ i, b < i → i < k → u[i]?.getD true = false → (l[b]?.getD reg0).seq ≤ (l[i]?.getD reg0).seq)
  | 0, b, h => by simp [bestF] at h
  | k + 1, b, h => by
    unfold bestF at h
    split at h
    · rename_i hb
      split at h
      · rename_i hu
        cases h
        refine ⟨by omega, hu, fun i hi hui => ?_, fun i hi hik => by omega⟩
        have := best_none hb i hi
        rw [this] at hui; cases hui
      · cases h
    · rename_i b0 hb
      obtain ⟨h1, h2, h3, h4⟩ := best_some hb
      split at h
      · rename_i hu
        cases h
        refine ⟨by omega, hu.1, fun i hi hui => ?_, fun i hi hik => by omega⟩
        rcases Nat.lt_trichotomy i b0 with e | e | e
        · have := h3 i e hui; have := hu.2; omega
        · subst e; exact hu.2
        · have := h4 i e hi hui; have := hu.2; omega
      · rename_i hu
        cases h
        refine ⟨by omega, h2, h3, fun i hi hik hui => ?_⟩
        by_cases e : i = k
        · subst e
          have : ¬ (l[i]?.getD reg0).seq < (l[b]?.getD reg0).seq := fun h => hu ⟨hui, h⟩
          omega
        · exact h4 i hi (by omega) hui
theorem rest_len_set {l : List Reg} {u : List Bool} {b : Nat} {r : Reg} (hl : u.length = l.length) (hr : l[b]? = some r) (hu : u[b]? = some false) : (restF l (u.set b true)).length + 1 = (restF l u).length := by
  obtain ⟨A, B, h1, h2, _⟩ := rest_split l u b r hl hr hu
  rw [h1, h2]; simp; omega
/-- one step of the selection -/
theorem select_step {l : List Reg} {u : List Bool} {b : Nat} {r : Reg} (hl : u.length = l.length) (hb : bestF l u l.length = some b) (hr : l[b]? = some r) : u[b]? = some false ∧ sortR (restF l u) = r :: sortR (restF l (u.set b true)) := by
  obtain ⟨h1, h2, h3, h4⟩ := best_some hb
  have hu : u[b]? = some false := by
    rw [List.getElem?_eq_getElem (by omega)] at h2 ⊢
    simpa using h2
  obtain ⟨A, B, e1, e2, e3, e4⟩ := rest_split l u b r hl hr hu
  refine ⟨hu, ?_⟩
  rw [e1, e2]
  refine sort_head (fun x hx => ?_) (fun x hx => ?_)
  · obtain ⟨i, f1, f2, f3⟩ := e3 x hx
    have := h3 i f1 (by rw [f3]; rfl)
    rw [hr, f2] at this
    exact this
  · obtain ⟨i, f1, f2, f3⟩ := e4 x hx
    have hi := (List.getElem?_eq_some_iff.1 f2).1
    have := h4 i f1 hi (by rw [f3]; rfl)
    rw [hr, f2] at this
    exact this
theorem rest_none {l : List Reg} {u : List Bool} (hl : u.length = l.length) (h : ∀ i, i < l.length → u[i]?.getD true = true) : restF l u = [] := by
  induction l generalizing u with
  | nil => rfl
  | cons r l ih =>
    cases u with
    | nil => simp at hl
    | cons c u =>
      have h0 := h 0 (by simp)
      simp at h0
      subst h0
      simp only [restF, if_true]
      exact ih (by simpa using hl) (fun i hi => by have := h (i + 1) (by simpa using hi); simpa using this)
theorem rest_all (l : List Reg) : restF l (List.replicate l.length false) = l := by
  induction l with
  | nil => rfl
  | cons r l ih => simp [restF, List.replicate_succ, ih]
end Go.Proofs.Ytkafffoaaklhiaa
