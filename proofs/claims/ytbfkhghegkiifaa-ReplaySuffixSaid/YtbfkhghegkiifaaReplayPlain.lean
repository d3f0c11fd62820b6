/-
  Plain laws of replay: the last record that concerns a key. No program here.
-/
import Derived.Test.YtbfkhghegkiifaaRefTPlain
namespace Go.Proofs.Ytbfkhghegkiifaa
set_option linter.unusedVariables false
/-- a record with its batch's number -/
structure Rc where
  seq : Int
  off : Int
  len : Int
  kind : Int
  key : ByteArray
  exp : Int
def Rc.ent (r : Rc) : Ent := ⟨r.seq, r.off, r.len, r.exp, false⟩
def stepF (k : ByteArray) (s : Option Ent) (r : Rc) : Option Ent :=
  if r.kind = 1 then (if r.key = k then some r.ent else s) else if r.kind = 2 then (if r.key = k then none else s) else if r.kind = 3 then none else s
def foldF (k : ByteArray) (s : Option Ent) (l : List Rc) : Option Ent := l.foldl (stepF k) s
def after (l : List Rc) (k : ByteArray) : Option Ent := foldF k none l
theorem foldF_append (k : ByteArray) (s : Option Ent) (l l' : List Rc) : foldF k s (l ++ l') = foldF k (foldF k s l) l' := by unfold foldF; rw [List.foldl_append]
theorem after_snoc (l : List Rc) (r : Rc) (k : ByteArray) : after (l ++ [r]) k = stepF k (after l k) r := by unfold after; rw [foldF_append]; rfl
/-- the reference's search from the end -/
def findL : List Rc → ByteArray → Option Ent
  | [], _ => none
  | r :: l, k => if r.kind = 3 ∨ (r.kind = 2 ∧ r.key = k) then none else if r.kind = 1 ∧ r.key = k then some r.ent else findL l k
theorem findL_after (l : List Rc) (k : ByteArray) : findL l.reverse k = after l k := by
  generalize hn : l.length = n
  induction n generalizing l with
  | zero =>
    obtain rfl := List.length_eq_zero_iff.1 hn
    rfl
  | succ n ih =>
    have hne : l ≠ [] := fun e => by rw [e] at hn; simp at hn
    have hl := List.dropLast_concat_getLast hne
    generalize l.getLast hne = r at hl
    generalize l.dropLast = q at hl
    subst hl
    have hq : q.length = n := by simp at hn; exact hn
    rw [after_snoc, List.reverse_append, List.reverse_singleton, List.singleton_append]
    unfold findL stepF
    rw [ih q hq]
    by_cases h1 : r.kind = 1
    · by_cases hk : r.key = k
      · simp [h1, hk]
      · simp [h1, hk]
    · by_cases h2 : r.kind = 2
      · by_cases hk : r.key = k
        · simp [h2, hk]
        · simp [h2, hk]
      · by_cases h3 : r.kind = 3
        · simp [h3]
        · simp [h1, h2, h3]
theorem foldF_mem {l : List Rc} {k : ByteArray} {s : Option Ent} {e : Ent} (h : foldF k s l = some e) : s = some e ∨ ∃ r ∈ l, r.kind = 1 ∧ r.key = k ∧ e = r.ent := by
  induction l generalizing s with
  | nil => exact .inl h
  | cons r l ih =>
    have h' : foldF k (stepF k s r) l = some e := h
    rcases ih h' with h1 | ⟨r', hr, h1⟩
    · unfold stepF at h1
      split at h1
      · rename_i hk
        split at h1
        · rename_i hkey
          injection h1 with h1
          exact .inr ⟨r, by simp, hk, hkey, h1.symm⟩
        · exact .inl h1
      · split at h1
        · split at h1
          · cases h1
          · exact .inl h1
        · split at h1
          · cases h1
          · exact .inl h1
    · exact .inr ⟨r', by simp [hr], h1⟩
theorem after_mem {l : List Rc} {k : ByteArray} {e : Ent} (h : after l k = some e) : ∃ r ∈ l, r.kind = 1 ∧ r.key = k ∧ e = r.ent := by
  rcases foldF_mem h with h | h
  · cases h
  · exact h
/-- what came before counts only if nothing later concerns the key -/
theorem foldF_start (l : List Rc) (k : ByteArray) (s : Option Ent) : foldF k s l = foldF k none l ∨ (foldF k s l = s ∧ foldF k none l = none) := by
  induction l generalizing s with
  | nil => exact .inr ⟨rfl, rfl⟩
  | cons r l ih =>
    show foldF k (stepF k s r) l = foldF k (stepF k none r) l ∨ (foldF k (stepF k s r) l = s ∧ foldF k (stepF k none r) l = none)
    by_cases h : stepF k s r = stepF k none r
    · rw [h]; exact .inl rfl
    · have e1 : stepF k s r = s ∧ stepF k none r = none := by
        unfold stepF at h ⊢
        split
        · split
          · rename_i h1 h2; simp [h1, h2] at h
          · exact ⟨rfl, rfl⟩
        · split
          · split
            · rename_i h1 h2 h3; simp [h2, h3] at h
            · exact ⟨rfl, rfl⟩
          · split
            · rename_i h1 h2 h3; simp [h3] at h
            · exact ⟨rfl, rfl⟩
      rw [e1.1, e1.2]
      rcases ih s with h1 | h1
      · exact .inl h1
      · exact .inr h1
def liveE (now : Int) (e : Ent) : Bool := decide (e.exp = 0) || decide (now < e.exp)
/-- the pairs of a map that are live: what replay gives -/
structure MapR (l : List Rc) (now : Int) (q : List Pr) : Prop where
  asc : Asc q
  mem : ∀ x : Pr, x ∈ q ↔ after l x.key = some x.en ∧ liveE now x.en = true
theorem MapR.eq {l : List Rc} {now : Int} {q q' : List Pr} (h : MapR l now q) (h' : MapR l now q') : q = q' := asc_eq _ _ h.asc h'.asc (fun x => by rw [h.mem, h'.mem])
/-- the program: the table that holds what 'after' says -/
def LikeR (T : Tab) (l : List Rc) : Prop := ∀ k e, Has T k e ↔ after l k = some e
theorem Asc.filter {q : List Pr} (h : Asc q) (p : Pr → Bool) : Asc (q.filter p) := List.Pairwise.filter p h
theorem mapR_of {T : Tab} {l : List Rc} {now : Int} {q : List Pr} (h : LikeR T l) (ha : Asc q) (hp : q.Perm (prs T)) : MapR l now (q.filter (fun x => liveE now x.en)) := by
  refine ⟨ha.filter _, fun x => ?_⟩
  rw [List.mem_filter, hp.mem_iff, mem_prs, h]
theorem likeR_step1 {T T' : Tab} {l : List Rc} {r : Rc} (h : LikeR T l) (hk : r.kind = 1) (s : SetI T T' r.key r.ent) : LikeR T' (l ++ [r]) := by
  intro k e
  rw [after_snoc, s.has]
  unfold stepF
  rw [if_pos hk]
  by_cases hkk : r.key = k
  · subst hkk
    rw [if_pos rfl]
    constructor
    · rintro (⟨_, h2⟩ | ⟨h1, _⟩)
      · rw [h2]
      · exact absurd rfl h1
    · intro h1; injection h1 with h1; exact .inl ⟨rfl, h1.symm⟩
  · rw [if_neg hkk, ← h]
    constructor
    · rintro (⟨h1, _⟩ | ⟨_, h2⟩)
      · exact absurd h1.symm hkk
      · exact h2
    · intro h2; exact .inr ⟨fun e => hkk e.symm, h2⟩
theorem likeR_step2 {T T' : Tab} {l : List Rc} {r : Rc} {b : Bool} (h : LikeR T l) (hk : r.kind = 2) (s : DelI T T' r.key b) : LikeR T' (l ++ [r]) := by
  intro k e
  rw [after_snoc, s.has, h]
  unfold stepF
  rw [if_neg (by omega), if_pos hk]
  by_cases hkk : r.key = k
  · rw [if_pos hkk]
    simp [hkk]
  · rw [if_neg hkk]
    exact ⟨fun h => h.2, fun h => ⟨fun e => hkk e.symm, h⟩⟩
theorem likeR_step3 {T' : Tab} {l : List Rc} {r : Rc} (hk : r.kind = 3) (hno : ∀ k e, ¬ Has T' k e) : LikeR T' (l ++ [r]) := by
  intro k e
  rw [after_snoc]
  unfold stepF
  rw [if_neg (by omega), if_neg (by omega), if_pos hk]
  simp [hno]
theorem likeR_step0 {T : Tab} {l : List Rc} {r : Rc} (h : LikeR T l) (h1 : r.kind ≠ 1) (h2 : r.kind ≠ 2) (h3 : r.kind ≠ 3) : LikeR T (l ++ [r]) := by
  intro k e
  rw [after_snoc, h]
  unfold stepF
  rw [if_neg h1, if_neg h2, if_neg h3]
theorem likeR_nil {T : Tab} (hno : ∀ k e, ¬ Has T k e) : LikeR T [] := fun k e => ⟨fun h => absurd h (hno k e), fun h => by cases h⟩
/-- the reference: the first n records have been seen -/
structure RefR (all done : List Rc) (now : Int) (L : List Pr) : Prop where
  asc : Asc L
  mem : ∀ x : Pr, x ∈ L ↔ (∃ r ∈ done, r.kind = 1 ∧ r.key = x.key) ∧ after all x.key = some x.en ∧ liveE now x.en = true
theorem refR_start (all : List Rc) (now : Int) : RefR all [] now [] := ⟨List.Pairwise.nil, fun x => by simp⟩
theorem refR_end {all : List Rc} {now : Int} {L : List Pr} (h : RefR all all now L) : MapR all now L := by
  refine ⟨h.asc, fun x => ?_⟩
  rw [h.mem]
  constructor
  · exact fun h => h.2
  · intro h1
    obtain ⟨r, hr, hk, hkey, _⟩ := after_mem h1.1
    exact ⟨⟨r, hr, hk, hkey⟩, h1⟩
theorem refR_set {all done : List Rc} {now : Int} {L L' : List Pr} {r : Rc} {e : Ent} (h : RefR all done now L) (hk : r.kind = 1) (he : after all r.key = some e) (hl : liveE now e = true) (hA : Asc L') (hm : ∀ x, x ∈ L' ↔ x = ⟨r.key, e⟩ ∨ (x.key ≠ r.key ∧ x ∈ L)) : RefR all (done ++ [r]) now L' := by
  refine ⟨hA, fun x => ?_⟩
  rw [hm, h.mem]
  constructor
  · rintro (rfl | ⟨h1, ⟨r', hr, h2⟩, h3⟩)
    · exact ⟨⟨r, by simp, hk, rfl⟩, he, hl⟩
    · exact ⟨⟨r', by simp [hr], h2⟩, h3⟩
  · rintro ⟨⟨r', hr, h1, h2⟩, h3, h4⟩
    by_cases hx : x.key = r.key
    · rw [hx, he] at h3
      injection h3 with h3
      exact .inl (by cases x; simp at hx h3; rw [hx, h3])
    · rcases List.mem_append.1 hr with hr | hr
      · exact .inr ⟨hx, ⟨r', hr, h1, h2⟩, h3, h4⟩
      · simp at hr; subst hr; exact absurd h2.symm hx
theorem refR_skip {all done : List Rc} {now : Int} {L : List Pr} {r : Rc} (h : RefR all done now L) (hn : r.kind = 1 → ∀ e, after all r.key = some e → liveE now e = false) : RefR all (done ++ [r]) now L := by
  refine ⟨h.asc, fun x => ?_⟩
  rw [h.mem]
  constructor
  · rintro ⟨⟨r', hr, h2⟩, h3⟩
    exact ⟨⟨r', by simp [hr], h2⟩, h3⟩
  · rintro ⟨⟨r', hr, h1, h2⟩, h3, h4⟩
    rcases List.mem_append.1 hr with hr | hr
    · exact ⟨⟨r', hr, h1, h2⟩, h3, h4⟩
    · simp at hr; subst hr
      rw [← h2] at h3
      rw [hn h1 _ h3] at h4; cases h4
/-! the laws -/
theorem suffix_law {l1 l2 : List Rc} {now k : Int} {q1 q2 : List Pr} (h1 : MapR (l1 ++ l2) now q1) (h2 : MapR l2 now q2) (a1 : ∀ r ∈ l1, r.seq ≤ k) (a2 : ∀ r ∈ l2, k < r.seq) : q1.filter (fun x => decide (k < x.en.seq)) = q2 := by
  refine asc_eq _ _ (h1.asc.filter _) h2.asc (fun x => ?_)
  rw [List.mem_filter, h1.mem, h2.mem, decide_eq_true_eq]
  have e : after (l1 ++ l2) x.key = foldF x.key (after l1 x.key) l2 := by unfold after; rw [foldF_append]
  rw [e]
  constructor
  · rintro ⟨⟨h3, h4⟩, h5⟩
    rcases foldF_start l2 x.key (after l1 x.key) with h6 | ⟨h6, _⟩
    · exact ⟨by rw [← h3, h6]; rfl, h4⟩
    · rw [h6] at h3
      obtain ⟨r, hr, _, _, he⟩ := after_mem h3
      have := a1 r hr
      rw [he] at h5
      exact absurd h5 (by show ¬ k < r.seq; omega)
  · rintro ⟨h3, h4⟩
    obtain ⟨r, hr, _, _, he⟩ := after_mem h3
    have := a2 r hr
    refine ⟨⟨?_, h4⟩, by rw [he]; exact this⟩
    rcases foldF_start l2 x.key (after l1 x.key) with h6 | ⟨_, h6⟩
    · rw [h6]; exact h3
    · have h3' : foldF x.key none l2 = some x.en := h3
      rw [h6] at h3'; cases h3'
theorem later_law {l : List Rc} {now now' : Int} {q q' : List Pr} (hle : now ≤ now') (h : MapR l now q) (h' : MapR l now' q') : q.filter (fun x => liveE now' x.en) = q' := by
  refine asc_eq _ _ (h.asc.filter _) h'.asc (fun x => ?_)
  rw [List.mem_filter, h.mem, h'.mem]
  constructor
  · rintro ⟨⟨h1, _⟩, h2⟩; exact ⟨h1, h2⟩
  · rintro ⟨h1, h2⟩
    refine ⟨⟨h1, ?_⟩, h2⟩
    unfold liveE at h2 ⊢
    simp only [Bool.or_eq_true, decide_eq_true_eq] at h2 ⊢
    rcases h2 with h2 | h2
    · exact .inl h2
    · exact .inr (by omega)
theorem flush_law {l1 l2 : List Rc} {f : Rc} {now : Int} {q1 q2 : List Pr} (hf : f.kind = 3) (h1 : MapR (l1 ++ f :: l2) now q1) (h2 : MapR l2 now q2) : q1 = q2 := by
  refine asc_eq _ _ h1.asc h2.asc (fun x => ?_)
  rw [h1.mem, h2.mem]
  have e : after (l1 ++ f :: l2) x.key = after l2 x.key := by
    unfold after
    rw [foldF_append]
    show foldF x.key (stepF x.key (foldF x.key none l1) f) l2 = _
    unfold stepF
    rw [if_neg (by omega), if_neg (by omega), if_pos hf]
  rw [e]
end Go.Proofs.Ytbfkhghegkiifaa
