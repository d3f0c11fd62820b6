/-
  Laws and contracts for the statement TopExpired.
-/
import Derived.Maps.Own
import Derived.Maps.OwnSet
import Derived.Carry
import Derived.Handy
import Derived.Test.YtbikkioipamlmaaGreatDoorX03
open Go.Lib (hid)
open Go.Proofs.Tryz (prog)
set_option linter.unusedVariables false
set_option linter.unusedSimpArgs false
set_option maxRecDepth 100000
set_option maxHeartbeats 20000000
namespace Go.Proofs.YtbikkioipamlmaaGreatDoor
structure Rec where
  kind : Int
  key : List Int
  val : List Int
  exp : Int
  deriving DecidableEq
def latestD (ver : Int) : Int := if ver = 1 then 4294967295 else 1099511627775
def recChk (ver : Int) (r : Rec) : Int :=
  if ¬ (ver = 1 \/ ver = 2) then 2
  else if (r.kind < 1 \/ 3 < r.kind) \/ (r.kind ≠ 1 /\ (0 < r.val.length \/ r.exp ≠ 0)) \/ (r.kind = 3 /\ 0 < r.key.length) then 4
  else if r.kind ≠ 3 /\ (r.key.length = 0 \/ 255 < r.key.length) then 5
  else if 65536 < r.val.length then 6
  else if r.exp < 0 \/ latestD ver < r.exp then 7
  else 0
def recH (ver : Int) (r : Rec) : List Int :=
  if ver = 1 then beN 161 1 ++ (beN r.kind 1 ++ (beN r.key.length 1 ++ (beN 0 1 ++ (beN r.val.length 4 ++ beN r.exp 4))))
  else beN 162 1 ++ (beN r.key.length 1 ++ (beN (16 * r.kind) 1 ++ (beN r.val.length 3 ++ (beN 0 1 ++ beN r.exp 5))))
def recSum (T : Nat -> Int) (seq off : Int) (h : List Int) (r : Rec) : Int := crcU T 0 ((beN seq 8 ++ beN off 4) ++ (h ++ (r.key ++ r.val)))
def recE (T : Nat -> Int) (ver seq off : Int) (r : Rec) : List Int := recH ver r ++ (beN (recSum T seq off (recH ver r) r) 4 ++ (r.key ++ r.val))
theorem recH_length (ver : Int) (r : Rec) : (recH ver r).length = 12 := by unfold recH; split <;> simp [bL]
theorem recE_length (T : Nat -> Int) (ver seq off : Int) (r : Rec) : (recE T ver seq off r).length = 16 + r.key.length + r.val.length := by
  simp only [recE, List.length_append, recH_length, bL]; omega
theorem recH_byte (ver : Int) (r : Rec) : Byte8 (recH ver r) := by
  unfold recH
  split <;> exact (beN_byte _ _).app ((beN_byte _ _).app ((beN_byte _ _).app ((beN_byte _ _).app ((beN_byte _ _).app (beN_byte _ _)))))
theorem recE_byte {T : Nat -> Int} {ver seq off : Int} {r : Rec} (hk : Byte8 r.key) (hv : Byte8 r.val) : Byte8 (recE T ver seq off r) := (recH_byte _ _).app ((beN_byte _ _).app (hk.app hv))
theorem recChk_ok {ver : Int} {r : Rec} (h : recChk ver r = 0) : (ver = 1 \/ ver = 2) /\ 1 <= r.kind /\ r.kind <= 3 /\ r.key.length <= 255 /\ r.val.length <= 65536 /\ 0 <= r.exp /\ r.exp <= latestD ver /\ (r.kind ≠ 1 -> r.val = [] /\ r.exp = 0) /\ (r.kind = 3 -> r.key = []) /\ (r.kind ≠ 3 -> 0 < r.key.length) := by
  unfold recChk at h
  split at h
  · omega
  · split at h
    · omega
    · split at h
      · omega
      · split at h
        · omega
        · split at h
          · omega
          · refine ⟨by omega, by omega, by omega, ?_, by omega, by omega, by omega, ?_, ?_, ?_⟩
            · by_cases hk : r.kind = 3 <;> omega
            · intro hk
              exact ⟨List.eq_nil_of_length_eq_zero (by omega), by omega⟩
            · intro hk; exact List.eq_nil_of_length_eq_zero (by omega)
            · intro hk; omega
def pad64 (b : List Int) : List Int := b ++ List.replicate (64 - b.length) 0
theorem pad64_length {b : List Int} (h : b.length <= 64) : (pad64 b).length = 64 := by simp [pad64]; omega
theorem pad64_self {b : List Int} (h : b.length = 64) : pad64 b = b := by simp [pad64, h]
theorem pad64_byte {b : List Int} (h : Byte8 b) : Byte8 (pad64 b) := h.app (.zeros _)
structure SecOk (S : List (List Int)) : Prop where
  len : ∀ s ∈ S, s.length = 64
  byt : ∀ s ∈ S, Byte8 s
theorem SecOk.set {S : List (List Int)} (h : SecOk S) (i : Nat) {b : List Int} (hl : b.length = 64) (hb : Byte8 b) : SecOk (S.set i b) := by
  constructor <;> intro s hs <;> rcases List.mem_or_eq_of_mem_set hs with hs | rfl
  · exact h.len _ hs
  · exact hl
  · exact h.byt _ hs
  · exact hb
theorem flat64_length {S : List (List Int)} (h : SecOk S) : S.flatten.length = 64 * S.length := by
  replace h := h.len
  induction S with
  | nil => rfl
  | cons a l ih => rw [List.flatten_cons, List.length_append, h a (by simp), ih (fun s hs => h s (by simp [hs])), List.length_cons]; omega
theorem flat64_drop {S : List (List Int)} (h : SecOk S) (i : Nat) : S.flatten.drop (64 * i) = (S.drop i).flatten := by
  replace h := h.len
  induction S generalizing i with
  | nil => simp
  | cons a l ih =>
    cases i with
    | zero => simp
    | succ i =>
      have ha := h a (by simp)
      rw [List.flatten_cons, List.drop_succ_cons, <- ih i (fun s hs => h s (by simp [hs])), show 64 * (i + 1) = a.length + 64 * i from by rw [ha]; omega, <- List.drop_drop, List.drop_left]
theorem flat64_take {S : List (List Int)} (h : SecOk S) (i : Nat) : S.flatten.take (64 * i) = (S.take i).flatten := by
  replace h := h.len
  induction S generalizing i with
  | nil => simp
  | cons a l ih =>
    cases i with
    | zero => simp
    | succ i =>
      have ha := h a (by simp)
      rw [List.flatten_cons, List.take_succ_cons, List.flatten_cons, <- ih i (fun s hs => h s (by simp [hs])), show 64 * (i + 1) = a.length + 64 * i from by rw [ha]; omega, List.take_length_add_append]
theorem flat64_sec {S : List (List Int)} (h : SecOk S) (i : Nat) {s : List Int} (hs : S[i]? = some s) : (S.flatten.drop (64 * i)).take 64 = s := by
  obtain ⟨hi, rfl⟩ := List.getElem?_eq_some_iff.1 hs
  rw [flat64_drop h, List.drop_eq_getElem_cons hi, List.flatten_cons, take_app (h.len _ (List.getElem_mem hi))]
theorem flat64_set {S : List (List Int)} (h : SecOk S) (i : Nat) (b : List Int) (hi : i < S.length) (hb : b.length = 64) : (S.set i b).flatten = S.flatten.take (64 * i) ++ (b ++ S.flatten.drop (64 * i + 64)) := by
  rw [flat64_take h, show 64 * i + 64 = 64 * (i + 1) from by omega, flat64_drop h, List.set_eq_take_append_cons_drop, if_pos hi, List.flatten_append, List.flatten_cons]
theorem flat64_at {S : List (List Int)} (h : SecOk S) (i j : Nat) {s : List Int} (hs : S[i]? = some s) (hj : j < 64) : S.flatten[64 * i + j]? = s[j]? := by
  have h1 := flat64_sec h i hs
  rw [<- h1, List.getElem?_take, if_pos hj, List.getElem?_drop]
def headAt (T : SumF) (S : List (List Int)) (l : Lay) (slot : Nat) : Option Hd :=
  match S[(74 + slot * l.rs.toNat)]? with
  | none => none
  | some b => match hdD T (74 + slot * l.rs.toNat : Nat) b with
    | none => none
    | some h => if h.ver = l.ver /\ h.lay = l.id /\ h.slot = slot then some h else none
end Go.Proofs.YtbikkioipamlmaaGreatDoor
namespace Go.Proofs.YtbikkioipamlmaaGreatDoor
open Go.Maps Go.RowKit
def secR : Value -> Option (DataW Nat × List MemPlace)
  | .agg cs => if cs.size = 64 /\ cs.all (·.oneCell') = true then some (.lit (.string (cs.toList.map fun v => UInt8.ofNat (intOf v).toNat)), []) else none
  | _ => none
theorem secR_inv {v : Value} {z : DataW Nat × List MemPlace} (h : secR v = some z) : ∃ cs, v = .agg cs /\ cs.size = 64 /\ cs.all (·.oneCell') = true /\ z.2 = [] := by
  unfold secR at h
  split at h
  · split at h
    · next hc => cases h; exact ⟨_, rfl, hc.1, hc.2, rfl⟩
    · cases h
  · cases h
abbrev OMd (w : World) (b n : Nat) (D : DataW Nat) : Prop := w.ownsMap prog 3 secR b n D
theorem intKd : Keyed prog 3 := int_keyed Tryz.underlying3
theorem keyId {o : Int} (h : (Lit.int .i64 o).wf = true) : keyOf prog 3 (.int .i64 o) = some (.int .i64 o) := keyOf_int_mk Tryz.underlying3 h
theorem mapD : prog.underlying 186 = some (.map 3 271) := Tryz.underlying186
structure Dev (w : World) (dp ib mb cap n : Nat) (D : DataW Nat) (S : List (List Int)) (wr : Nat) : Prop where
  blk : w.heap[dp]? = some (.cells #[.slice (some ⟨ib, 0, none⟩) (64 * S.length) cap, .map (some mb), .int .i64 (wr : Int), .int .i64 (-1), .bool false] 188 (0, 0))
  img : ∃ cs, w.heap[ib]? = some (.cells cs 5 (0, 0)) /\ cs.size = cap /\ cs.toList.take (64 * S.length) = u8s S.flatten
  capb : 64 * S.length <= cap /\ cap <= maxLen
  old : OMd w mb n D
  ok : SecOk S
  len : 1 <= S.length /\ S.length <= 1048576
  ne : dp ≠ ib /\ dp ≠ mb /\ ib ≠ mb
  wrb : n <= wr /\ wr <= 1000000
def devF (dp ib mb : Nat) : Nat -> Prop := fun j => j = dp \/ j = ib \/ j = mb
theorem Dev.lt {w : World} {dp ib mb cap n : Nat} {D : DataW Nat} {S : List (List Int)} {wr : Nat} (h : Dev w dp ib mb cap n D S wr) : ∀ j, devF dp ib mb j -> j < w.heap.size := by
  rintro j (rfl | rfl | rfl)
  · exact lB h.blk
  · obtain ⟨cs, h1, _⟩ := h.img; exact lB h1
  · exact h.old.lt
theorem Dev.fr {w w' : World} {dp ib mb cap n : Nat} {D : DataW Nat} {S : List (List Int)} {wr : Nat} {T : Nat -> Prop} (h : Dev w dp ib mb cap n D S wr) (hf : Fr T w w') (hd : ∀ j, devF dp ib mb j -> ¬ T j) : Dev w' dp ib mb cap n D S wr := by
  have hk : ∀ j, devF dp ib mb j -> w'.heap[j]? = w.heap[j]? := fun j hj => hf.block j (h.lt j hj) (hd j hj)
  refine ⟨by rw [hk _ (.inl rfl)]; exact h.blk, ?_, h.capb, ?_, h.ok, h.len, h.ne, h.wrb⟩
  · rw [hk _ (.inr (.inl rfl))]; exact h.img
  · obtain ⟨es, clock, hb, F, hs, hD⟩ := h.old
    exact ⟨es, clock, (hk _ (.inr (.inr rfl))).trans hb, F, hs, hD⟩
theorem Dev.below {w w' : World} {dp ib mb cap n : Nat} {D : DataW Nat} {S : List (List Int)} {wr : Nat} (h : Dev w dp ib mb cap n D S wr) (hb : Below w.heap.size w w') : Dev w' dp ib mb cap n D S wr := h.fr (Fr.of_below (S := fun _ => False) hb) (fun _ _ f => f)
theorem Dev.cells {w : World} {dp ib mb cap n : Nat} {D : DataW Nat} {S : List (List Int)} {wr : Nat} (h : Dev w dp ib mb cap n D S wr) :
    w.cell? ⟨dp, 0, none⟩ = some (.slice (some ⟨ib, 0, none⟩) (64 * S.length) cap) /\ w.cell? ⟨dp, 1, none⟩ = some (.map (some mb)) /\ w.cell? ⟨dp, 2, none⟩ = some (.int .i64 (wr : Int)) /\ w.cell? ⟨dp, 3, none⟩ = some (.int .i64 (-1)) /\ w.cell? ⟨dp, 4, none⟩ = some (.bool false) :=
  ⟨qB h.blk, qB h.blk, qB h.blk, qB h.blk, qB h.blk⟩
theorem Dev.sec {w : World} {dp ib mb cap n : Nat} {D : DataW Nat} {S : List (List Int)} {wr : Nat} (h : Dev w dp ib mb cap n D S wr) (i : Nat) (s : List Int) (hs : S[i]? = some s) : Rd8 w (some ⟨ib, 64 * i, none⟩) 64 (cap - 64 * i) s := by
  obtain ⟨cs, h1, h2, h3⟩ := h.img
  obtain ⟨hi, rfl⟩ := List.getElem?_eq_some_iff.1 hs
  have hc := h.capb
  have hl := h.ok.len _ (List.getElem_mem hi)
  refine ⟨hl, fun j hj => ⟨ib, 64 * i, rfl, lB h1, ?_⟩, ⟨by omega, by omega⟩, (fun e => by cases e), h.ok.byt _ (List.getElem_mem hi)⟩
  have h4 : (u8s S.flatten)[64 * i + j]? = some (.int .u8 (S[i][j]'(by omega))) := by
    rw [u8s, List.getElem?_map, flat64_at h.ok i j hs hj, List.getElem?_eq_getElem (by omega)]; rfl
  rw [qB h1, <- Array.getElem?_toList]
  rw [<- h3, List.getElem?_take, if_pos (by omega)] at h4
  rw [h4, List.getElem?_eq_getElem (by omega)]; rfl
theorem sectorsD (dp ib mb cap n : Nat) (D : DataW Nat) (S : List (List Int)) (wr : Nat) (w : World) (h : Dev w dp ib mb cap n D S wr) :
    Calls prog 64 #[.pointer (some ⟨dp, 0, none⟩)] w fun e w' => e = .returned (.int .i64 (S.length : Int)) /\ w = w' := by
  obtain ⟨c0, c1, c2, c3, c4⟩ := h.cells
  obtain ⟨l1, l2⟩ := h.len
  obtain ⟨L, hL⟩ : ∃ L, 64 * S.length = L := ⟨_, rfl⟩
  rw [hL] at c0
  have hq : (L : Int).tdiv 64 = (S.length : Int) := by
    rw [Int.tdiv_eq_ediv_of_nonneg (by omega)]; omega
  have hL2 : L <= 67108864 := by omega
  have HL := hid hL
  clear h hL
  go_enter Tryz.func64, Tryz.ntmps64
  go_wp2_with fail
  go_ret
  exact ⟨rfl, rfl⟩
theorem deadD (dp ib mb cap n : Nat) (D : DataW Nat) (S : List (List Int)) (wr : Nat) (w : World) (h : Dev w dp ib mb cap n D S wr) :
    Calls prog 60 #[.pointer (some ⟨dp, 0, none⟩)] w fun e w' => e = .returned (.bool false) /\ w = w' := by
  obtain ⟨c0, c1, c2, c3, c4⟩ := h.cells
  clear h
  go_enter Tryz.func60, Tryz.ntmps60
  go_wp2_with fail
  go_ret
  exact ⟨rfl, rfl⟩
theorem burnD (dp ib mb cap n : Nat) (D : DataW Nat) (S : List (List Int)) (wr : Nat) (w : World) (h : Dev w dp ib mb cap n D S wr) :
    Calls prog 188 #[.pointer (some ⟨dp, 0, none⟩)] w fun e w' => e = .returned (.bool false) /\ w = w' := by
  obtain ⟨c0, c1, c2, c3, c4⟩ := h.cells
  clear h
  go_enter Tryz.func188, Tryz.ntmps188
  go_wp2_with fail
  go_ret
  exact ⟨rfl, rfl⟩
theorem checkD (dp ib mb cap n : Nat) (D : DataW Nat) (S : List (List Int)) (wr : Nat) (i : Int) (w : World) (h : Dev w dp ib mb cap n D S wr) (h0 : 0 <= i) (h1 : i < (S.length : Int)) :
    Calls prog 155 #[.pointer (some ⟨dp, 0, none⟩), .int .i64 i] w fun e w' => e = .returned (.int .i64 0) /\ w = w' := by
  obtain ⟨c0, c1, c2, c3, c4⟩ := h.cells
  have H := hid h
  clear h
  go_enter Tryz.func155, Tryz.ntmps155
  go_wp2_with fail
  with_reducible refine (sectorsD dp ib mb cap n D S wr _ H.out).mono ?_
  rintro e w1 ⟨rfl, rfl⟩
  go_wp2_with fail
  go_ret
  exact ⟨rfl, rfl⟩
theorem atD (dp ib mb cap n : Nat) (D : DataW Nat) (S : List (List Int)) (wr : Nat) (i : Nat) (w : World) (h : Dev w dp ib mb cap n D S wr) (hi : i < S.length) :
    Calls prog 154 #[.pointer (some ⟨dp, 0, none⟩), .int .i64 (i : Int)] w fun e w' => e = .returned (.slice (some ⟨ib, 64 * i, none⟩) 64 (cap - 64 * i)) /\ w = w' := by
  obtain ⟨c0, c1, c2, c3, c4⟩ := h.cells
  obtain ⟨l1, l2⟩ := h.len
  have hc := h.capb
  have h1 : (0 : Int) <= (i : Int) * 64 := by omega
  have h2 : (i : Int) * 64 <= ((i : Int) + 1) * 64 := by omega
  have h3 : ((i : Int) + 1) * 64 <= (cap : Int) := by omega
  have h4 : ((i : Int) + 1) * 64 <= 67108864 := by omega
  clear h
  go_enter Tryz.func154, Tryz.ntmps154
  go_wp2_with fail
  go_ret
  refine ⟨?_, rfl⟩
  show Ending.returned (.slice (some ⟨ib, i * 64, none⟩) ((i + 1) * 64 - i * 64) (cap - i * 64)) = _
  rw [show 64 * i = i * 64 from Nat.mul_comm _ _, show (i + 1) * 64 - i * 64 = 64 from by omega]
theorem readD (dp ib mb cap n : Nat) (D : DataW Nat) (S : List (List Int)) (wr : Nat) (i : Nat) (s : List Int) (w : World) (h : Dev w dp ib mb cap n D S wr) (hs : S[i]? = some s) :
    Calls prog 85 #[.pointer (some ⟨dp, 0, none⟩), .int .i64 (i : Int)] w fun e w' => ∃ a c, e = .returned (.tuple #[.slice a 64 c, .int .i64 0]) /\ Rd8 w' a 64 c s /\ Below w.heap.size w w' := by
  have hi := (List.getElem?_eq_some_iff.1 hs).1
  have H := hid h
  have HS := hid (h.sec i s hs)
  have h0 : (0 : Int) <= (i : Int) := by omega
  have h1 : (i : Int) < (S.length : Int) := by omega
  clear h hs
  go_enter Tryz.func85, Tryz.ntmps85
  go_wp2_with fail
  with_reducible refine (checkD dp ib mb cap n D S wr i _ H.out h0 h1).mono ?_
  rintro e w1 ⟨rfl, rfl⟩
  go_wp2_with fail
  with_reducible refine (atD dp ib mb cap n D S wr i _ H.out hi).mono ?_
  rintro e w1 ⟨rfl, rfl⟩
  go_wp2_with fail
  with_reducible refine (clone8 _ 64 _ s _ HS.out (by omega)).mono ?_
  rintro e w2 ⟨v, rfl, ho, hb⟩
  obtain ⟨a, c, rfl, hr⟩ := ho.rd
  have hl := HS.out.len
  rw [hl] at hr ⊢
  go_wp2_with fail
  go_ret2
  exact ⟨a, c, rfl, hr, hb⟩
end Go.Proofs.YtbikkioipamlmaaGreatDoor
namespace Go.Proofs.YtbikkioipamlmaaGreatDoor
open Go.RowKit
def firstD (l : Lay) (i : Int) : Int := if formB l = true /\ 0 <= i /\ i < l.rg then 74 + i * l.rs else -1
theorem formB_rng {l : Lay} (h : formB l = true) : 1 <= l.id /\ l.id <= 4294967295 /\ 2 <= l.rs /\ l.rs <= 2048 /\ 4 <= l.rg /\ l.rg <= 16 := by
  obtain ⟨a, b, c, d⟩ := l
  have := (formB_iff a b c d).1 h
  exact ⟨this.1, this.2.1, this.2.2.2.1, this.2.2.2.2.1, this.2.2.2.2.2.2.1, this.2.2.2.2.2.2.2⟩
theorem mul_rng {i r : Int} (h0 : 0 <= i) (h1 : i < 16) (h2 : 2 <= r) (h3 : r <= 2048) : 0 <= i * r /\ i * r <= 30720 := by
  refine ⟨Int.mul_nonneg h0 (by omega), ?_⟩
  have := Int.mul_le_mul (show i <= 15 by omega) h3 (by omega) (by omega)
  omega
theorem first13 (id ver rs rg i : Int) (w : World) :
    Calls prog 136 #[.agg #[.int .i64 id, .int .i64 ver, .int .i64 rs, .int .i64 rg], .int .i64 i] w fun e w' => e = .returned (.int .i64 (firstD ⟨id, ver, rs, rg⟩ i)) /\ Below w.heap.size w w' := by
  have hf := fun W => form20 id ver rs rg W
  by_cases hb : formB ⟨id, ver, rs, rg⟩ = true
  · rw [hb] at hf
    have HF := hid hf
    clear hf
    obtain ⟨_, _, r1, r2, g1, g2⟩ := formB_rng hb
    simp only at r1 r2 g1 g2
    by_cases h0 : i < 0
    · have d0 : decide (i < 0) = true := by simpa using h0
      have e : firstD ⟨id, ver, rs, rg⟩ i = -1 := by unfold firstD; rw [if_neg (by rintro ⟨_, h, _⟩; omega)]
      have E := hid e
      clear e hb
      go_enter Tryz.func136, Tryz.ntmps136
      go_wp2_with fail
      with_reducible refine (HF.out _).mono ?_
      rintro e w1 ⟨rfl, hb⟩
      obtain ⟨hc, _⟩ := bcell hb
      go_wp2_with fail
      go_ret
      exact ⟨ret_int E.out.symm, bel1 hb⟩
    by_cases h1 : rg <= i
    · have d0 : decide (i < 0) = false := by simpa using h0
      have d1 : decide (rg <= i) = true := by simpa using h1
      have e : firstD ⟨id, ver, rs, rg⟩ i = -1 := by unfold firstD; rw [if_neg (by rintro ⟨_, _, h⟩; simp only at h; omega)]
      have E := hid e
      clear e hb
      go_enter Tryz.func136, Tryz.ntmps136
      go_wp2_with fail
      with_reducible refine (HF.out _).mono ?_
      rintro e w1 ⟨rfl, hb⟩
      obtain ⟨hc, _⟩ := bcell hb
      go_wp2_with fail
      go_ret
      exact ⟨ret_int E.out.symm, bel1 hb⟩
    have d0 : decide (i < 0) = false := by simpa using h0
    have d1 : decide (rg <= i) = false := by simpa using h1
    have e : firstD ⟨id, ver, rs, rg⟩ i = 74 + i * rs := by unfold firstD; rw [if_pos ⟨hb, by omega, by simp only; omega⟩]
    obtain ⟨m1, m2⟩ := mul_rng (i := i) (r := rs) (by omega) (by omega) r1 r2
    have E := hid e
    clear e hb
    go_enter Tryz.func136, Tryz.ntmps136
    go_wp2_with fail
    with_reducible refine (HF.out _).mono ?_
    rintro e w1 ⟨rfl, hb⟩
    obtain ⟨hc, _⟩ := bcell hb
    go_wp2_with fail
    go_ret
    exact ⟨ret_int E.out.symm, bel1 hb⟩
  · have hb' : formB ⟨id, ver, rs, rg⟩ = false := by simpa using hb
    rw [hb'] at hf
    have HF := hid hf
    clear hf
    have e : firstD ⟨id, ver, rs, rg⟩ i = -1 := by unfold firstD; rw [if_neg (by rintro ⟨h, _⟩; exact hb h)]
    have E := hid e
    clear e hb hb'
    go_enter Tryz.func136, Tryz.ntmps136
    go_wp2_with fail
    with_reducible refine (HF.out _).mono ?_
    rintro e w1 ⟨rfl, hb⟩
    obtain ⟨hc, _⟩ := bcell hb
    go_wp2_with fail
    go_ret
    exact ⟨ret_int E.out.symm, bel1 hb⟩
def overlapB (a : Lay) (i : Int) (b : Lay) (k : Int) : Bool :=
  decide (0 <= firstD a i /\ 0 <= firstD b k /\ firstD a i < firstD b k + b.rs /\ firstD b k < firstD a i + a.rs)
theorem firstD_rng (l : Lay) (i : Int) : firstD l i = -1 \/ (74 <= firstD l i /\ firstD l i <= 30794 /\ 2 <= l.rs /\ l.rs <= 2048) := by
  unfold firstD
  by_cases h : formB l = true /\ 0 <= i /\ i < l.rg
  · rw [if_pos h]
    obtain ⟨hb, h0, h1⟩ := h
    obtain ⟨_, _, r1, r2, _, g2⟩ := formB_rng hb
    have := mul_rng h0 (by omega) r1 r2
    right; omega
  · rw [if_neg h]; exact .inl rfl
theorem wrap_small (n : Int) (h : -1000000 <= n /\ n <= 1000000) : wrap64 n = n := IntWalk.wrap64_in _ ⟨by omega, by omega⟩
theorem overlap8 (id ver rs rg i id2 ver2 rs2 rg2 k : Int) (w : World) :
    Calls prog 71 #[.agg #[.int .i64 id, .int .i64 ver, .int .i64 rs, .int .i64 rg], .int .i64 i, .agg #[.int .i64 id2, .int .i64 ver2, .int .i64 rs2, .int .i64 rg2], .int .i64 k] w
      fun e w' => e = .returned (.bool (overlapB ⟨id, ver, rs, rg⟩ i ⟨id2, ver2, rs2, rg2⟩ k)) /\ Below w.heap.size w w' := by
  have HO := hid (show overlapB ⟨id, ver, rs, rg⟩ i ⟨id2, ver2, rs2, rg2⟩ k = true ↔ _ from decide_eq_true_iff)
  have r1 := firstD_rng ⟨id, ver, rs, rg⟩ i
  have r2 := firstD_rng ⟨id2, ver2, rs2, rg2⟩ k
  generalize overlapB ⟨id, ver, rs, rg⟩ i ⟨id2, ver2, rs2, rg2⟩ k = O at *
  have f1 := fun W => first13 id ver rs rg i W
  have f2 := fun W => first13 id2 ver2 rs2 rg2 k W
  generalize firstD ⟨id, ver, rs, rg⟩ i = x at *
  generalize firstD ⟨id2, ver2, rs2, rg2⟩ k = y at *
  have F1 := hid f1
  have F2 := hid f2
  simp only at r1 r2 HO
  have w1 : x < 0 \/ wrap64 (x + rs) = x + rs := by
    rcases r1 with r1 | r1
    · left; omega
    · right; exact wrap_small _ (by omega)
  have w2 : y < 0 \/ wrap64 (y + rs2) = y + rs2 := by
    rcases r2 with r2 | r2
    · left; omega
    · right; exact wrap_small _ (by omega)
  have W1 := hid w1
  have W2 := hid w2
  clear f1 f2 r1 r2 w1 w2
  go_enter Tryz.func71, Tryz.ntmps71
  go_wp2_with fail
  refine wp_region_ext (w.heap.size + 2) (by kernel_rfl) (by kernel_rfl) ?_
  have hx := fun (x : Ext (w.heap.size + 2) ((w.alloc (.cells #[.int .i64 id, .int .i64 ver, .int .i64 rs, .int .i64 rg] 26)).alloc (.cells #[.int .i64 id2, .int .i64 ver2, .int .i64 rs2, .int .i64 rg2] 26))) b o h => Ext.cell x b o h
  repeat (go_big_quiet_step (first | (go_at_call 136; first | (with_reducible exact Calls.ext (by simp) (F1.out _)) | (with_reducible exact Calls.ext (by simp) (F2.out _))) | (with_reducible exact rfl)))
  refine wpQuiet_nil ?_
  rintro _ ⟨⟨w1, hb⟩, rfl⟩
  clear hx
  obtain ⟨hc, _⟩ := bcell hb
  go_wp2
  all_goals
    have h1 := W1.out
    have h2 := W2.out
    go_ret
    refine ⟨ret_bool ?_, bel2 (by simpa using hb)⟩
    rw [Bool.eq_iff_iff, HO.out]
    try simp only [decide_eq_true_eq, Bool.false_eq_true, false_iff]
    omega
def capD (l : Lay) : Int := if formB l = true then (l.rs - 1) * 59 else 0
theorem capacity14 (id ver rs rg : Int) (w : World) :
    Calls prog 129 #[.agg #[.int .i64 id, .int .i64 ver, .int .i64 rs, .int .i64 rg]] w fun e w' => e = .returned (.int .i64 (capD ⟨id, ver, rs, rg⟩)) /\ Below w.heap.size w w' := by
  have hf := fun W => form20 id ver rs rg W
  by_cases hb : formB ⟨id, ver, rs, rg⟩ = true
  · rw [hb] at hf
    obtain ⟨_, _, r1, r2, g1, g2⟩ := formB_rng hb
    have e : capD ⟨id, ver, rs, rg⟩ = (rs - 1) * 59 := by unfold capD; rw [if_pos hb]
    have HF := hid hf
    have E := hid e
    clear hf e hb
    simp only at r1 r2 g1 g2
    go_enter Tryz.func129, Tryz.ntmps129
    go_wp2_with fail
    with_reducible refine (HF.out _).mono ?_
    rintro e w1 ⟨rfl, hb⟩
    obtain ⟨hc, _⟩ := bcell hb
    go_wp2_with fail
    go_ret
    exact ⟨ret_int E.out.symm, bel1 hb⟩
  · have hb' : formB ⟨id, ver, rs, rg⟩ = false := by simpa using hb
    rw [hb'] at hf
    have e : capD ⟨id, ver, rs, rg⟩ = 0 := by unfold capD; rw [if_neg hb]
    have HF := hid hf
    have E := hid e
    clear hf e hb hb'
    go_enter Tryz.func129, Tryz.ntmps129
    go_wp2_with fail
    with_reducible refine (HF.out _).mono ?_
    rintro e w1 ⟨rfl, hb⟩
    obtain ⟨hc, _⟩ := bcell hb
    go_wp2_with fail
    go_ret
    exact ⟨ret_int E.out.symm, bel1 hb⟩
def fitsB (l : Lay) (n : Int) : Bool := formB l && decide (74 + l.rg * l.rs <= n)
theorem mul_rng2 {g r : Int} (h0 : 4 <= g) (h1 : g <= 16) (h2 : 2 <= r) (h3 : r <= 2048) : 8 <= g * r /\ g * r <= 32768 := by
  have a := Int.mul_le_mul h1 h3 (by omega) (by omega)
  have b := Int.mul_le_mul h0 h2 (by omega) (by omega)
  omega
theorem fits15 (id ver rs rg n : Int) (w : World) :
    Calls prog 63 #[.agg #[.int .i64 id, .int .i64 ver, .int .i64 rs, .int .i64 rg], .int .i64 n] w fun e w' => e = .returned (.bool (fitsB ⟨id, ver, rs, rg⟩ n)) /\ Below w.heap.size w w' := by
  have hf := fun W => form20 id ver rs rg W
  by_cases hb : formB ⟨id, ver, rs, rg⟩ = true
  · rw [hb] at hf
    obtain ⟨_, _, r1, r2, g1, g2⟩ := formB_rng hb
    have e : fitsB ⟨id, ver, rs, rg⟩ n = decide (74 + rg * rs <= n) := by unfold fitsB; rw [hb]; rfl
    have HF := hid hf
    have E := hid e
    clear hf e hb
    simp only at r1 r2 g1 g2
    obtain ⟨m1, m2⟩ := mul_rng2 g1 g2 r1 r2
    go_enter Tryz.func63, Tryz.ntmps63
    go_wp2_with fail
    with_reducible refine (HF.out _).mono ?_
    rintro e w1 ⟨rfl, hb⟩
    obtain ⟨hc, _⟩ := bcell hb
    go_wp2_with fail
    go_ret
    exact ⟨ret_bool E.out.symm, bel1 hb⟩
  · have hb' : formB ⟨id, ver, rs, rg⟩ = false := by simpa using hb
    rw [hb'] at hf
    have e : fitsB ⟨id, ver, rs, rg⟩ n = false := by unfold fitsB; rw [hb']; rfl
    have HF := hid hf
    have E := hid e
    clear hf e hb hb'
    go_enter Tryz.func63, Tryz.ntmps63
    go_wp2_with fail
    with_reducible refine (HF.out _).mono ?_
    rintro e w1 ⟨rfl, hb⟩
    go_wp2_with fail
    go_ret
    exact ⟨ret_bool E.out.symm, bel1 hb⟩
def sectorsL (l : Lay) (i : Int) : List Int := if formB l = true /\ 0 <= i /\ i < l.rg then (List.range l.rs.toNat).map (fun k : Nat => 74 + i * l.rs + (k : Int)) else []
def RetInts (w : World) (zs : List Int) (e : Ending) (w' : World) : Prop :=
  ∃ v, e = .returned v /\ w'.ownsRow w.heap.size 3 1 v zs.length (zs.map (Value.int .i64)) /\ Below w.heap.size w w'
theorem intinfo : (prog.info? 3).map (fun i => (i.zero, i.size, i.bytes)) = some (some (.int .i64 0), 1, 8) := by kernel_rfl
theorem map_range_succ (f : Nat -> Int) (k : Nat) : ((List.range k).map f).map (Value.int .i64) ++ [Value.int .i64 (f k)] = ((List.range (k + 1)).map f).map (Value.int .i64) := by
  rw [List.range_succ, List.map_append, List.map_append]; rfl
theorem sectors9_no (id ver rs rg i : Int) (w : World) (h : ¬ (formB ⟨id, ver, rs, rg⟩ = true /\ 0 <= i /\ i < rg)) :
    Calls prog 311 #[.agg #[.int .i64 id, .int .i64 ver, .int .i64 rs, .int .i64 rg], .int .i64 i] w (RetInts w []) := by
  have hf := fun W => refform12 id ver rs rg W
  by_cases hb : formB ⟨id, ver, rs, rg⟩ = true
  · rw [hb] at hf
    have HF := hid hf
    have h1 : i < 0 \/ (0 <= i /\ rg <= i) := by
      by_cases h0 : i < 0
      · exact .inl h0
      · right; refine ⟨by omega, ?_⟩
        by_cases h1 : rg <= i
        · exact h1
        · exact (h ⟨hb, by omega, by omega⟩).elim
    clear hf hb h
    rcases h1 with h1 | ⟨h1, h2⟩
    · have d1 : decide (i < 0) = true := by simpa using h1
      go_enter Tryz.func311, Tryz.ntmps311
      go_wp2_with fail
      with_reducible refine (HF.out _).mono ?_
      rintro e w1 ⟨rfl, hb⟩
      go_wp2_with fail
      go_ret
      exact ⟨_, rfl, World.ownsRow_nil _ _ _ _, bel1 hb⟩
    · have d1 : decide (i < 0) = false := by simp; omega
      have d2 : decide (rg <= i) = true := by simpa using h2
      go_enter Tryz.func311, Tryz.ntmps311
      go_wp2_with fail
      with_reducible refine (HF.out _).mono ?_
      rintro e w1 ⟨rfl, hb⟩
      obtain ⟨hc, _⟩ := bcell hb
      go_wp2_with fail
      go_ret
      exact ⟨_, rfl, World.ownsRow_nil _ _ _ _, bel1 hb⟩
  · have hb' : formB ⟨id, ver, rs, rg⟩ = false := by simpa using hb
    rw [hb'] at hf
    have HF := hid hf
    clear hf hb hb' h
    go_enter Tryz.func311, Tryz.ntmps311
    go_wp2_with fail
    with_reducible refine (HF.out _).mono ?_
    rintro e w1 ⟨rfl, hb⟩
    go_wp2_with fail
    go_ret
    exact ⟨_, rfl, World.ownsRow_nil _ _ _ _, bel1 hb⟩
theorem sectors9_yes (id ver i rg : Int) (r : Nat) (w : World) (hb : formB ⟨id, ver, (r : Int), rg⟩ = true) (h0 : 0 <= i) (h1 : i < rg) :
    Calls prog 311 #[.agg #[.int .i64 id, .int .i64 ver, .int .i64 (r : Int), .int .i64 rg], .int .i64 i] w (RetInts w ((List.range r).map (fun k : Nat => 74 + i * (r : Int) + (k : Int)))) := by
  have hf := fun W => refform12 id ver r rg W
  rw [hb] at hf
  obtain ⟨_, _, r1, r2, g1, g2⟩ := formB_rng hb
  simp only at r1 r2 g1 g2
  obtain ⟨m1, m2⟩ := mul_rng (i := i) (r := r) (by omega) (by omega) r1 r2
  have HF := hid hf
  obtain ⟨i0, hi, hz0, hz1, hz2⟩ := info_parts intinfo
  have I1 := hid hi; have I2 := hid hz0; have I3 := hid hz1; have I4 := hid hz2
  clear hf hb hi hz0 hz1 hz2
  have d1 : decide (i < 0) = false := by simp; omega
  have d2 : decide (rg <= i) = false := by simp; omega
  go_enter Tryz.func311, Tryz.ntmps311
  go_wp2_with fail
  with_reducible refine (HF.out _).mono ?_
  rintro e w1 ⟨rfl, hb⟩
  obtain ⟨hc, _⟩ := bcell hb
  go_wp2_with fail
  clear hc
  have hsz := hb.size
  simp at hsz
  go_loopw [5, 6] (fun v j wr => ∃ k : Nat, k <= r /\ j = .int .i64 k /\ wr.ownsRow (w.heap.size + 1) 3 1 v k (((List.range k).map (fun k : Nat => 74 + i * (r : Int) + (k : Int))).map (Value.int .i64)) /\ Below (w.heap.size + 1) w1 wr) (fun _ j _ => r - (intOf j).toNat)
  case atStart => exact ⟨0, Nat.zero_le _, rfl, World.ownsRow_nil _ _ _ _, Below.refl _ _⟩
  case round =>
    obtain ⟨k, hk, rfl, hown, hbr⟩ := hrel
    have hc2 : wr.cell? ⟨w.heap.size, 2, none⟩ = some (.int .i64 (r : Int)) := by
      rw [hbr.cell (by simp), hb.cell (by simp), World.cell?_alloc_new]; rfl
    have hz := hbr.size
    have O := hid hown
    have B := hid hbr
    clear hown hbr
    by_cases hlt : k < r
    · go_wp2_with (at_builtin; refine Stop.out ?_)
      refine Stop.of (wpList_app rfl _ _ 266 rfl (w.heap.size + 1) 3 i0 (.int .i64 0) 1 8 Tryz.underlying266 I1.out I2.out I3.out I4.out rfl (by decide) _ k _ rfl (O.out.alloc _) (.slice (some ⟨wr.heap.size, 0, none⟩) 1 1) 1 [.int .i64 (74 + i * (r : Int) + (k : Int))] rfl (src_lit #[.int .i64 (74 + i * (r : Int) + (k : Int))] (0, 0) (heap_alloc_new wr _) rfl) (ints_one .i64 [74 + i * (r : Int) + (k : Int)]) (by unfold maxLen; omega) (by omega) (by simp; omega) ?_)
      intro v2 w2 hown2 hg2
      rw [map_range_succ (fun k : Nat => 74 + i * (r : Int) + (k : Int)) k] at hown2
      have hb2 := (B.out.alloc (by omega) _).grown hg2 (by simp; omega) (fun j hj => (O.out.lt j hj).1)
      have O2 := hid hown2
      have B2 := hid hb2
      clear hown2 hg2 hb2 O B hc2
      go_wp2_with fail
      go_roundw
      case rel => exact ⟨k + 1, by omega, by go_num, O2.out, B2.out⟩
      case measure => simp [intOf]; omega
    · obtain rfl : k = r := by omega
      go_wp2_with fail
      go_ret
      refine ⟨_, rfl, ?_, bel1 (hb.trans (B.out.mono (by simp)))⟩
      have := Joins.ownsRow_le O.out (Nat.le_succ w.heap.size)
      simpa using this
theorem sectors9 (id ver rs rg i : Int) (w : World) :
    Calls prog 311 #[.agg #[.int .i64 id, .int .i64 ver, .int .i64 rs, .int .i64 rg], .int .i64 i] w (RetInts w (sectorsL ⟨id, ver, rs, rg⟩ i)) := by
  by_cases h : formB ⟨id, ver, rs, rg⟩ = true /\ 0 <= i /\ i < rg
  · have e : sectorsL ⟨id, ver, rs, rg⟩ i = (List.range rs.toNat).map (fun k : Nat => 74 + i * rs + (k : Int)) := by unfold sectorsL; rw [if_pos h]
    rw [e]
    obtain ⟨h1, h2, h3⟩ := h
    obtain ⟨_, _, r1, r2, _, _⟩ := formB_rng h1
    simp only at r1 r2
    obtain ⟨r, rfl⟩ := Int.eq_ofNat_of_zero_le (show 0 <= rs by omega)
    exact sectors9_yes id ver i rg r w h1 h2 h3
  · have e : sectorsL ⟨id, ver, rs, rg⟩ i = [] := by unfold sectorsL; rw [if_neg h]
    rw [e]
    exact sectors9_no id ver rs rg i w h
abbrev recV (kind exp : Int) (ka : Option Addr) (kn kc : Nat) (va : Option Addr) (vn vc : Nat) : Value := .agg #[.int .i64 kind, .slice ka kn kc, .slice va vn vc, .int .i64 exp]
theorem rlen8 (kind exp : Int) (ka va : Option Addr) (kn kc vn vc : Nat) (w : World) (hk : kn <= 1099511627776) (hv : vn <= 1099511627776) :
    Calls prog 138 #[recV kind exp ka kn kc va vn vc] w fun e w' => e = .returned (.int .i64 ((16 + kn + vn : Nat) : Int)) /\ Below w.heap.size w w' := by
  have h1 : (0 : Int) <= 16 + (kn : Int) := by omega
  have h2 : (0 : Int) <= 16 + (kn : Int) + (vn : Int) := by omega
  have H3 := hid (show 16 + (kn : Int) + (vn : Int) = ((16 + kn + vn : Nat) : Int) by omega)
  go_enter Tryz.func138, Tryz.ntmps138
  go_wp2_with fail
  go_ret
  exact ⟨by rw [<- H3.out]; rfl, (Below.refl _ _).alloc (Nat.le_refl _) _⟩
theorem latest8 (ver : Int) (w : World) : Calls prog 208 #[.int .i64 ver] w fun e w' => e = .returned (.int .i64 (latestD ver)) /\ w = w' := by
  by_cases h : ver = 1
  · have e : latestD ver = 4294967295 := by unfold latestD; rw [if_pos h]
    rw [e]
    go_enter Tryz.func208, Tryz.ntmps208
    go_wp2_with fail
    go_ret
    exact ⟨rfl, rfl⟩
  · have e : latestD ver = 1099511627775 := by unfold latestD; rw [if_neg h]
    rw [e]
    go_enter Tryz.func208, Tryz.ntmps208
    go_wp2_with fail
    go_ret
    exact ⟨rfl, rfl⟩
def fieldsL (fs : List (Int × Nat)) : List Int := fs.flatMap (fun p => beN p.1 p.2)
theorem fields8 (a a1 a2 : Option Addr) (m n cap c1 c2 : Nat) (bs : List Int) (fs : List (Int × Nat)) (w : World) (h : Rd8 w a m cap bs) (hm : m <= 1000) (hn : fs.length = n) (hn1 : 1 <= n) (hn9 : n <= 20)
    (h1 : Elems .i64 w a1 n (fs.map Prod.fst)) (h2 : Elems .i64 w a2 n (fs.map (fun p => (p.2 : Int)))) (hf : ∀ p ∈ fs, 0 <= p.1 /\ p.1 < 9223372036854775808 /\ 1 <= p.2 /\ p.2 <= 8) :
    Calls prog 273 #[.slice a m cap, .slice a1 n c1, .slice a2 n c2] w (Ret8 w (bs ++ fieldsL fs)) := by
  have H := hid h
  have H1 := hid h1
  have H2 := hid h2
  have HF := hid hf
  have HN := hid hn
  clear h h1 h2 hf hn
  have hpl : ∀ k, k <= n -> (fieldsL (fs.take k)).length <= 8 * k := by
    intro k hk
    induction k with
    | zero => simp [fieldsL]
    | succ k ih =>
      have := HN.out
      rw [List.take_add_one, List.getElem?_eq_getElem (by omega)]
      simp only [fieldsL, Option.toList_some, List.flatMap_append, List.length_append, List.flatMap_cons, List.flatMap_nil, List.append_nil, bL] at *
      have h8 := (HF.out _ (List.getElem_mem (show k < fs.length by omega))).2.2.2
      have := ih (by omega)
      omega
  have HP := hid hpl
  clear hpl
  go_enter Tryz.func273, Tryz.ntmps273
  go_wp2_with fail
  go_loopw [0, 7, 8, 11] (fun v _ _ j wr => ∃ k : Nat, k <= n /\ j = .int .i64 k /\ (∃ a' m' c', v = .slice a' m' c' /\ Rd8 wr a' m' c' (bs ++ fieldsL (fs.take k)) /\ (0 < k -> Own8 w.heap.size wr (.slice a' m' c') (bs ++ fieldsL (fs.take k)))) /\ Below w.heap.size w wr) (fun _ _ _ j _ => n - (intOf j).toNat)
  case atStart => exact ⟨0, Nat.zero_le _, rfl, ⟨a, m, cap, rfl, by simpa [fieldsL] using H.out, fun h => by omega⟩, Below.refl _ _⟩
  case round =>
    obtain ⟨k, hk, rfl, ⟨a', m', c', rfl, hr, ho⟩, hb⟩ := hrel
    have R := hid hr
    have B := hid hb
    have O := hid ho
    clear hr hb ho
    by_cases hlt : k < n
    · obtain ⟨b1, o1, rfl, l1, g1⟩ := (H1.out.below B.out (Nat.le_refl _)) k hlt
      obtain ⟨b2, o2, rfl, l2, g2⟩ := (H2.out.below B.out (Nat.le_refl _)) k hlt
      obtain ⟨p, hp⟩ : ∃ p, fs[k]? = some p := ⟨_, List.getElem?_eq_getElem (by rw [HN.out]; exact hlt)⟩
      rw [List.getElem?_map, hp] at g1 g2
      simp only [Option.map_some, Option.getD_some] at g1 g2
      obtain ⟨p0, p1, q1, q8⟩ := HF.out p (List.mem_of_getElem? hp)
      have hfs : fieldsL (fs.take (k + 1)) = fieldsL (fs.take k) ++ beN p.1 p.2 := by
        rw [List.take_add_one, hp]; simp [fieldsL]
      have HFS := hid hfs
      have hpk := HP.out k hk
      have hml := R.out.len
      rw [List.length_append, H.out.len] at hml
      obtain ⟨z, wd⟩ := p
      simp only at p0 p1 q1 q8 g1 g2
      have hwz : IntKind.u64.wrap z = z := by simp [IntKind.wrap, IntKind.bits, IntKind.signed]; omega
      clear hfs hp
      go_wp2_with fail
      with_reducible refine (put8w a' m' c' _ z wd _ R.out (by omega) p0 (by omega) q1 q8).mono ?_
      rintro e w1 ⟨v, rfl, ho1, hb1⟩
      obtain ⟨q9, hq9⟩ : ∃ q9, bs ++ fieldsL (fs.take k) ++ beN z wd = q9 := ⟨_, rfl⟩
      rw [hq9] at ho1
      obtain ⟨a9, c9, rfl, hr9⟩ := ho1.rd
      obtain ⟨m9, hm9⟩ : ∃ m9, q9.length = m9 := ⟨_, rfl⟩
      rw [hm9] at ho1 hr9 ⊢
      rw [List.append_assoc, <- HFS.out] at hq9
      have HQ := hid hq9
      clear hq9 hm9
      have B1 := hid (tB B.out hb1)
      have O1 := hid (ho1.mono (B' := w.heap.size) B.out.size)
      have R1 := hid hr9
      clear ho1 hb1 hr9 hpk hml
      go_wp2_with fail
      go_roundw
      case rel =>
        refine ⟨k + 1, by omega, by go_num, ⟨a9, _, c9, rfl, ?_, fun _ => ?_⟩, B1.out⟩
        · rw [HQ.out]; exact R1.out
        · rw [HQ.out]; exact O1.out
      case measure => simp [intOf]; omega
    · obtain rfl : k = n := by omega
      have e : fs.take k = fs := List.take_of_length_le (by rw [HN.out]; exact Nat.le_refl _)
      rw [e] at O
      go_wp2_with fail
      go_ret
      exact ⟨_, rfl, O.out (by omega), B.out⟩
theorem elems_blk {w : World} {k : IntKind} {g n : Nat} {e : TypeId} {fr : Nat × Nat} {cs : Array Value} {zs : List Int} (h : w.heap[g]? = some (.cells cs e fr)) (hcs : cs.toList = zs.map (Value.int k)) (hl : zs.length = n) : Elems k w (some ⟨g, 0, none⟩) n zs := by
  refine fun i hi => ⟨g, 0, rfl, lB h, ?_⟩
  rw [Nat.zero_add, qB h, <- Array.getElem?_toList, hcs, List.getElem?_map, List.getElem?_eq_getElem (by omega)]
  rfl
theorem has1 (w : World) (o : Obj) : w.heap.size + 1 = (w.alloc o).heap.size := (heap_alloc_size _ _).symm
theorem has2 (w : World) (o o' : Obj) : w.heap.size + 1 + 1 = ((w.alloc o).alloc o').heap.size := by simp
theorem elems6 {w : World} {b : Nat} (hb : b = w.heap.size) (k : IntKind) (t : TypeId) (x0 x1 x2 x3 x4 x5 : Int) : Elems k (w.alloc (.cells #[.int k x0, .int k x1, .int k x2, .int k x3, .int k x4, .int k x5] t)) (some ⟨b, 0, none⟩) 6 [x0, x1, x2, x3, x4, x5] := hb ▸ elems_blk (nB w _) rfl rfl
theorem elems6o {w : World} {b : Nat} (hb : b = w.heap.size) (k : IntKind) (t : TypeId) (o : Obj) (x0 x1 x2 x3 x4 x5 : Int) : Elems k ((w.alloc (.cells #[.int k x0, .int k x1, .int k x2, .int k x3, .int k x4, .int k x5] t)).alloc o) (some ⟨b, 0, none⟩) 6 [x0, x1, x2, x3, x4, x5] := hb ▸ elems_blk (old_at (nB w _) _) rfl rfl
def recFs (ver : Int) (r : Rec) : List (Int × Nat) :=
  if ver = 1 then [(161, 1), (r.kind, 1), ((r.key.length : Int), 1), (0, 1), ((r.val.length : Int), 4), (r.exp, 4)]
  else [(162, 1), ((r.key.length : Int), 1), (16 * r.kind, 1), ((r.val.length : Int), 3), (0, 1), (r.exp, 5)]
theorem recFs_H (ver : Int) (r : Rec) : fieldsL (recFs ver r) = recH ver r := by
  unfold recFs recH; split <;> simp [fieldsL]
theorem latestD_le (ver : Int) : latestD ver <= 1099511627775 := by unfold latestD; split <;> omega
theorem rhead8 (ver : Int) (r : Rec) (ka va : Option Addr) (kn kc vn vc : Nat) (w : World) (hc : recChk ver r = 0) (hk : r.key.length = kn) (hv : r.val.length = vn) :
    Calls prog 270 #[.int .i64 ver, recV r.kind r.exp ka kn kc va vn vc] w (Ret8 w (recH ver r)) := by
  obtain ⟨hver, k1, k3, k255, v65, e0, e1, _⟩ := recChk_ok hc
  have el := latestD_le ver
  have E := hid (recFs_H ver r)
  have h16 : (0 : Int) <= 16 * r.kind := by omega
  have FL := hid (fun (a1 a2 : Option Addr) (W : World) (zs ws : List Int) (h1 : Elems .i64 W a1 6 zs) (h2 : Elems .i64 W a2 6 ws) (e1 : zs = (recFs ver r).map Prod.fst) (e2 : ws = (recFs ver r).map (fun p => (p.2 : Int))) =>
    fields8 none a1 a2 0 6 0 6 6 [] (recFs ver r) W (.nilv W) (by omega) (by unfold recFs; split <;> rfl) (by omega) (by omega) (by rw [<- e1]; exact h1) (by rw [<- e2]; exact h2) (by
      unfold recFs; intro p hp; split at hp <;> simp only [List.mem_cons, List.not_mem_nil, or_false] at hp <;> rcases hp with rfl | rfl | rfl | rfl | rfl | rfl <;> simp only <;> omega))
  obtain ⟨kind, key, val, exp⟩ := r
  simp only at *
  obtain ⟨klen, hkl⟩ : ∃ n, key.length = n := ⟨_, rfl⟩
  obtain ⟨vlen, hvl⟩ : ∃ n, val.length = n := ⟨_, rfl⟩
  have HK := hid hkl
  have HV := hid hvl
  rw [hkl] at hk k255
  rw [hvl] at hv v65
  subst hk hv
  clear hkl hvl hc
  rcases hver with rfl | rfl
  · have E1 := hid (show [161, kind, (klen : Int), 0, (vlen : Int), exp] = (recFs 1 ⟨kind, key, val, exp⟩).map Prod.fst by rw [<- HK.out, <- HV.out]; rfl)
    have E2 := hid (show [1, 1, 1, 1, 4, 4] = (recFs 1 ⟨kind, key, val, exp⟩).map (fun p => (p.2 : Int)) by rfl)
    go_enter Tryz.func270, Tryz.ntmps270
    go_wp2_with fail
    with_reducible refine (FL.out _ _ _ _ _ (elems6o (has1 _ _) _ _ _ _ _ _ _ _ _) (elems6 (has2 _ _ _) _ _ _ _ _ _ _ _) E1.out E2.out).mono ?_
    rintro e w1 ⟨v, rfl, ho, hb⟩
    go_wp2_with fail
    go_ret
    refine ⟨v, rfl, ?_, ?_⟩
    · rw [<- E.out]; exact ho.mono (by simp; omega)
    · exact bel1x (bel1x (bel1x hb).1).1 |>.1
  · have E1 := hid (show [162, (klen : Int), 16 * kind, (vlen : Int), 0, exp] = (recFs 2 ⟨kind, key, val, exp⟩).map Prod.fst by rw [<- HK.out, <- HV.out]; rfl)
    have E2 := hid (show [1, 1, 1, 3, 1, 5] = (recFs 2 ⟨kind, key, val, exp⟩).map (fun p => (p.2 : Int)) by rfl)
    go_enter Tryz.func270, Tryz.ntmps270
    go_wp2_with fail
    with_reducible refine (FL.out _ _ _ _ _ (elems6o (has1 _ _) _ _ _ _ _ _ _ _ _) (elems6 (has2 _ _ _) _ _ _ _ _ _ _ _) E1.out E2.out).mono ?_
    rintro e w1 ⟨v, rfl, ho, hb⟩
    go_wp2_with fail
    go_ret
    refine ⟨v, rfl, ?_, ?_⟩
    · rw [<- E.out]; exact ho.mono (by simp; omega)
    · exact bel1x (bel1x (bel1x hb).1).1 |>.1
end Go.Proofs.YtbikkioipamlmaaGreatDoor
namespace Go.Proofs.YtbikkioipamlmaaGreatDoor
open Go.Maps Go.RowKit
theorem firstD_nat {l : Lay} (hf : formB l = true) (slot : Nat) (hs : (slot : Int) < l.rg) : firstD l (slot : Int) = ((74 + slot * l.rs.toNat : Nat) : Int) := by
  obtain ⟨_, _, r0, _⟩ := formB_rng hf
  unfold firstD
  rw [if_pos ⟨hf, by omega, hs⟩]
  have : l.rs = (l.rs.toNat : Int) := by omega
  rw [this]
  simp
def strF (c : SumF) (S : List (List Int)) (salt : Int) : Nat -> Nat -> List Int
  | _, 0 => []
  | i, k + 1 => match frameD c 2 salt (i : Int) (S[i]?.getD []) with
    | none => []
    | some p => p ++ strF c S salt (i + 1) k
theorem strF_none {c : SumF} {S : List (List Int)} {salt : Int} {i k : Nat} (h : S[i]? = some (List.replicate 64 0)) : strF c S salt i k = [] := by
  cases k with
  | zero => rfl
  | succ k =>
    unfold strF
    rw [h]
    simp only [Option.getD_some, frameD_zero]
theorem strF_one {c : SumF} {S : List (List Int)} {salt : Int} {i k : Nat} {p : List Int} (h : S[i]? = some (frameE c 2 salt (i : Int) p)) (hp : p.length = 59) (hs : 0 <= salt) (hi : i < 1048576) (h2 : k = 0 \/ S[i + 1]? = some (List.replicate 64 0)) : strF c S salt i (k + 1) = p := by
  unfold strF
  rw [h]
  simp only [Option.getD_some]
  rw [frameD_E (by omega) ⟨by omega, by omega, hs, by omega, by omega⟩]
  simp only [hp, Nat.sub_self, List.replicate_zero, List.append_nil]
  rcases h2 with rfl | h2
  · simp [strF]
  · rw [strF_none h2]; simp
theorem stream8 (T : Nat -> Int) (dp ib mb cap n : Nat) (D : DataW Nat) (S : List (List Int)) (wn : Nat) (l : Lay) (slot : Nat) (seq most : Int) (w : World) (hd : Dev w dp ib mb cap n D S wn) (hT : CrcT T w) (hf : formB l = true) (hs : (slot : Int) < l.rg) (hq0 : 1 <= seq) (hq1 : seq <= 281474976710655)
    (hm : most = (l.rs - 1) * 59) (hS : 74 + slot * l.rs.toNat + l.rs.toNat <= S.length) :
    Calls prog 128 #[.pointer (some ⟨dp, 0, none⟩), .agg #[.int .i64 l.id, .int .i64 l.ver, .int .i64 l.rs, .int .i64 l.rg], .int .i64 (slot : Int), .int .i64 seq, .int .i64 most] w fun e w' =>
      ∃ v, e = .returned (.tuple #[v, .bool true]) /\ Own8 w.heap.size w' v (strF (crcF T) S seq (74 + slot * l.rs.toNat + 1) (l.rs.toNat - 1)) /\ Below w.heap.size w w' := by
  have hfn := firstD_nat hf slot hs
  obtain ⟨fi, hfi⟩ : ∃ fi, 74 + slot * l.rs.toNat = fi := ⟨_, rfl⟩
  have hfr := firstD_rng l (slot : Int)
  have hrs := formB_rng hf
  rw [hfn] at hfr
  rw [hfi] at hS hfr hfn ⊢
  obtain ⟨rn, hrn⟩ : ∃ rn, l.rs.toNat = rn := ⟨_, rfl⟩
  rw [hrn] at hS ⊢
  have hrl : l.rs = (rn : Int) := by omega
  have hS10 : S.length <= 1048576 := hd.len.2
  have F1 := hid (fun W => first13 l.id l.ver l.rs l.rg (slot : Int) W)
  have RD := hid (fun (i : Nat) (hi : i < S.length) (W : World) (hD : Dev W dp ib mb cap n D S wn) => readD dp ib mb cap n D S wn i (S[i]?.getD []) W hD (by rw [List.getElem?_eq_getElem hi]; rfl))
  have FD := hid (fun (i : Nat) (hi : i < 1048576) (W : World) (a : Option Addr) (c : Nat) (b : List Int) (hT : CrcT T W) (hR : Rd8 W a 64 c b) => fdec8 T 2 seq (i : Int) a 64 c b W hT hR (by unfold possP; omega) (by omega))
  have HD := hid hd
  have HT := hid hT
  rw [show (⟨l.id, l.ver, l.rs, l.rg⟩ : Lay) = l from rfl, hfn] at F1
  obtain ⟨i0, hi, hz0, hz1, hz2⟩ := info_parts u8info
  have I1 := hid hi; have I2 := hid hz0; have I3 := hid hz1; have I4 := hid hz2
  clear hd hT hf hfr hfi hfn hi hz0 hz1 hz2
  obtain ⟨id, ver, rs, rg⟩ := l
  simp only at *
  subst hrl hm
  obtain ⟨w0, hw0⟩ : ∃ w0, (w.alloc (.cells #[.int .i64 id, .int .i64 ver, .int .i64 (rn : Int), .int .i64 rg] 26)) = w0 := ⟨_, rfl⟩
  have hs0 : w0.heap.size = w.heap.size + 1 := by rw [<- hw0]; simp
  have B0 := hid (show Below w.heap.size w w0 by rw [<- hw0]; exact (Below.refl _ _).alloc (Nat.le_refl _) _)
  have HL0 := hid (show w0.heap[w.heap.size]? = some (.cells #[.int .i64 id, .int .i64 ver, .int .i64 (rn : Int), .int .i64 rg] 26 (0, 0)) by rw [<- hw0]; exact nB w _)
  have KL := hid (show ∀ W, Below w0.heap.size w0 W -> W.cell? ⟨w.heap.size, 0, none⟩ = some (.int .i64 id) /\ W.cell? ⟨w.heap.size, 1, none⟩ = some (.int .i64 ver) /\ W.cell? ⟨w.heap.size, 2, none⟩ = some (.int .i64 (rn : Int)) /\ W.cell? ⟨w.heap.size, 3, none⟩ = some (.int .i64 rg) from fun W hW =>
    have e := (hW.block _ (by omega)).trans HL0.out
    ⟨qB e, qB e, qB e, qB e⟩)
  obtain ⟨kl0, kl1, kl2, kl3⟩ := KL.out w0 (Below.refl _ _)
  have HS0 := hid hs0
  obtain ⟨tot, htot⟩ : ∃ tot, strF (crcF T) S seq (fi + 1) (rn - 1) = tot := ⟨_, rfl⟩
  rw [htot]
  have HTot := hid htot
  clear hs0 htot
  go_enter Tryz.func128, Tryz.ntmps128
  go_wp2_with fail
  (try rw [hw0])
  clear hw0
  with_reducible refine (F1.out _).mono ?_
  rintro e w1 ⟨rfl, hb1⟩
  have B1 := hid hb1
  have ⟨_, _, kl21, _⟩ := KL.out w1 hb1
  clear hb1
  go_wp2_with fail
  go_loopw [13, 14] (fun out sec wr => ∃ j : Nat, j + 1 <= rn /\ sec = .int .i64 ((fi : Int) + 1 + (j : Int)) /\ ∃ acc, Own8 w1.heap.size wr out acc /\ Below w1.heap.size w1 wr /\ acc.length = 59 * j /\ acc ++ strF (crcF T) S seq (fi + 1 + j) (rn - 1 - j) = tot) (fun _ s _ => fi + 1 + rn - (intOf s).toNat)
  case atStart => exact ⟨0, by omega, by simp, [], Own8.nil _ _, Below.refl _ _, rfl, by rw [List.nil_append]; exact HTot.out⟩
  case round =>
    obtain ⟨j, hj, rfl, acc, ho, hb, hl, ht⟩ := hrel
    have BW := tB B0.out (tB B1.out hb)
    obtain ⟨a0, c0, rfl, hr0⟩ := ho.rd
    have O1 := hid ho
    have B2 := hid hb
    have T1 := hid ht
    have R0 := hid hr0
    have ⟨_, _, kl22, _⟩ := KL.out wr (tB B1.out hb)
    have BWH := hid BW
    rw [hl] at O1 R0 ⊢
    obtain ⟨m, hm⟩ : ∃ m, 59 * j = m := ⟨_, rfl⟩
    rw [hm] at O1 R0 hl ⊢
    have HLm := hid hl
    clear ho hb ht hr0 BW hl
    by_cases hlt : j + 1 < rn
    · have h1 : (fi : Int) + 1 + (j : Int) < (fi : Int) + (rn : Int) := by omega
      have h2 : (m : Int) < ((rn : Int) - 1) * 59 := by omega
      obtain ⟨sec, hsec⟩ : ∃ sec : Nat, fi + 1 + j = sec := ⟨_, rfl⟩
      have hsz : (fi : Int) + 1 + (j : Int) = (sec : Int) := by omega
      have hsl : sec < S.length := by omega
      have RD1 := hid (RD.out sec hsl _ (HD.out.below BWH.out))
      have FD1 := hid (FD.out sec (by omega))
      have HSec := hid hsec
      have HSz := hid hsz
      rw [hsz] at h1 ⊢
      clear hsec hsz
      go_wp2_with fail
      with_reducible refine RD1.out.mono ?_
      rintro e w2 ⟨a2, c2, rfl, hr2, hb2⟩
      have B3 := hid (tB B2.out hb2)
      have BW3 := hid (tB BWH.out hb2)
      have FD2 := hid (FD1.out _ a2 c2 _ (HT.out.below BW3.out HT.out.lt) hr2)
      have O2 := hid (O1.out.below hb2)
      clear hb2 hr2
      go_wp2_with fail
      with_reducible refine FD2.out.mono ?_
      rintro e w3 ⟨v, rfl, hb3, ho3⟩
      have B4 := hid (tB B3.out hb3)
      have BW4 := hid (tB BW3.out hb3)
      have O3 := hid (O2.out.below hb3)
      have ⟨_, _, kl23, _⟩ := KL.out w3 (tB B1.out B4.out)
      have STEP : strF (crcF T) S seq sec (rn - 1 - j) = match frameD (crcF T) 2 seq (sec : Int) (S[sec]?.getD []) with | none => [] | some p => p ++ strF (crcF T) S seq (sec + 1) (rn - 1 - (j + 1)) := by
        rw [show rn - 1 - j = (rn - 1 - (j + 1)) + 1 from by omega]
        rfl
      have T2 := T1.out
      rw [HSec.out, STEP] at T2
      clear STEP T1
      cases hq : frameD (crcF T) 2 seq (sec : Int) (S[sec]?.getD []) with
      | none =>
        rw [hq] at T2
        simp only [List.append_nil] at T2
        subst T2
        simp only [Option.isSome_none]
        clear ho3 hq
        go_wp2_with fail
        go_ret2
        have e := HLm.out
        subst e
        exact ⟨_, rfl, O3.out.mono (tB B0.out B1.out).size, BW4.out⟩
      | some p =>
        rw [hq] at T2
        simp only at T2
        simp only [Option.isSome_some]
        have hp59 := (frameD_some hq).2.2.1
        obtain ⟨a3, c3, rfl, hr3⟩ := (ho3 p hq).rd
        rw [hp59] at hr3 ⊢
        have R3 := hid hr3
        have T3 := hid T2
        have HP := hid hp59
        clear ho3 hq T2 hr3 hp59
        have hm9 : m <= 1000000 := by omega
        go_wp2_with (at_builtin; refine Stop.out ?_)
        refine Stop.of (wpList_app rfl _ _ 33 rfl w1.heap.size 5 i0 (.int .u8 0) 1 1 Tryz.underlying33 I1.out I2.out I3.out I4.out rfl (by decide) _ m (u8s acc) rfl (by have := O3.out.own; rw [HLm.out] at this; exact this) _ 59 (u8s p) rfl R3.out.src (ints_one _ _) (by unfold maxLen; omega) (by omega) B4.out.size ?_)
        intro v' w5 ho5 hg5
        have O5 := hid (Own8.app (B := w1.heap.size) (a := acc) (b := p) (n := 59) (by rw [HLm.out]; exact ho5) HP.out O3.out.byt R3.out.byt)
        have B5 := hid (show Below w1.heap.size w1 w5 from bel_grow B4.out (by have := O3.out.own; rw [HLm.out] at this; exact this) hg5)
        clear ho5 hg5
        go_wp2_with fail
        go_roundw
        case rel => exact ⟨j + 1, by omega, by rw [<- HSz.out]; go_num, acc ++ p, O5.out, B5.out, by rw [List.length_append, HLm.out, HP.out]; omega, by rw [List.append_assoc, show fi + 1 + (j + 1) = sec + 1 from by have := HSec.out; omega]; exact T3.out⟩
        case measure => simp [intOf]; omega
    · have hje : j + 1 = rn := by omega
      have h1 : ¬ ((fi : Int) + 1 + (j : Int) < (fi : Int) + (rn : Int)) := by omega
      have T2 := T1.out
      rw [show rn - 1 - j = 0 from by omega] at T2
      simp only [strF, List.append_nil] at T2
      subst T2
      clear T1
      go_wp2_with fail
      go_ret2
      have e := HLm.out
      subst e
      exact ⟨_, rfl, O1.out.mono (tB B0.out B1.out).size, BWH.out⟩
end Go.Proofs.YtbikkioipamlmaaGreatDoor
