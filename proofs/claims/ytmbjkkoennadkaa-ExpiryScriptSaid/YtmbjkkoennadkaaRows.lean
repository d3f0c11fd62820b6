/-
  No cell of these rows narrows 'for every input' (looked for: loops, veiled, ifaces, maps, wideKeys, modest, calm, conditions, laid).
  DERIVED. THE GIVEN ROWS OF THIS SEAT. 4 by the template 'for every input the law returns true; each argument reads behind the call as it read before'; 0 by the template 'total and deterministic' (their statements: YtmbjkkoennadkaaTotals.lean).
  GIVEN WITH THE SEED: the statements are not yours to turn. If you find one false, say at which input.
  Laid BY PROGRAM, IN A SANDBOX (cutbox-rows.mjs): the forced cells as the released guide's own fill.sh prints them over the translation 626895b6402725cf… (all of the seat's roots in one cut). By AI agents, Wed Nov 11 2026. No macro, syntax, notation, axiom, sorry.
-/
import Derived.Test.YtmbjkkoennadkaaChecked
import GoSem.Claim
import GoSem.ClaimJoined
import GoSem.ClaimMapViews
import Derived.JoinedTies
import Derived.KernelRfl
namespace Go.Proofs.Ytmbjkkoennadkaa
/- THE CELL 'sum', in the pinned program and in every row, IS THE sha256 OF THE DUMP (.gsa) THAT YtmbjkkoennadkaaProg.lean LOADS. Nothing in Lean hashes anything: it is a label: what it is worth is what the hold of that sum in a sandbox is worth. -/
noncomputable def Try.pinned : Pinned := { name := "ytmbjkkoennadkaa", sum := "626895b6402725cf1c97062e44d6e72c92f1e22d12c8367f05eaf5086b678d4a", checked := Try.checked }
namespace Rows
def none {H : Type} : Left H := { results := [], args := [] }

/-- 'flashcachelaw18.ExpiryOrder': WHATEVER THE INPUT: true; the input reads as it did. -/
def expiryOrderSpec : ChangeSpec := { name := "expiryOrder", fn := fun _ => fun
  | [d] => { results := [.lit (.bool true)], args := [d] }
  | _ => none }
def expiryOrderRow : OpenClaim := { program := "ytmbjkkoennadkaa", sum := "626895b6402725cf1c97062e44d6e72c92f1e22d12c8367f05eaf5086b678d4a", func := "flashcache/flashcachelaw18.ExpiryOrder", spec := "expiryOrder", unfollowed := true, recurses := true, apart := false }
def ExpiryOrderSaid : Prop := expiryOrderRow.holds Try.pinned (OpenSpec.ofChange expiryOrderSpec)

/-- ITS FALSE NEIGHBOUR: 'it returns false'. Refute it at one input. -/
def expiryOrderWrong : ChangeSpec := { name := "expiryOrder", fn := fun _ => fun
  | [d] => { results := [.lit (.bool false)], args := [d] }
  | _ => none }
def ExpiryOrderWrongFalsely : Prop := expiryOrderRow.holds Try.pinned (OpenSpec.ofChange expiryOrderWrong)

/-- 'flashcachelaw18.ExpiryLast': WHATEVER THE INPUT: true; the input reads as it did. -/
def expiryLastSpec : ChangeSpec := { name := "expiryLast", fn := fun _ => fun
  | [d1, d2, d3] => { results := [.lit (.bool true)], args := [d1, d2, d3] }
  | _ => none }
def expiryLastRow : OpenClaim := { program := "ytmbjkkoennadkaa", sum := "626895b6402725cf1c97062e44d6e72c92f1e22d12c8367f05eaf5086b678d4a", func := "flashcache/flashcachelaw18.ExpiryLast", spec := "expiryLast", unfollowed := true, recurses := true, apart := false }
def ExpiryLastSaid : Prop := expiryLastRow.holds Try.pinned (OpenSpec.ofChange expiryLastSpec)

/-- ITS FALSE NEIGHBOUR: 'it returns false'. Refute it at one input. -/
def expiryLastWrong : ChangeSpec := { name := "expiryLast", fn := fun _ => fun
  | [d1, d2, d3] => { results := [.lit (.bool false)], args := [d1, d2, d3] }
  | _ => none }
def ExpiryLastWrongFalsely : Prop := expiryLastRow.holds Try.pinned (OpenSpec.ofChange expiryLastWrong)

/-- 'flashcachelaw18.ExpiryScript': WHATEVER THE INPUT: true; the input reads as it did. -/
def expiryScriptSpec : ChangeSpec := { name := "expiryScript", fn := fun _ => fun
  | [d] => { results := [.lit (.bool true)], args := [d] }
  | _ => none }
def expiryScriptRow : OpenClaim := { program := "ytmbjkkoennadkaa", sum := "626895b6402725cf1c97062e44d6e72c92f1e22d12c8367f05eaf5086b678d4a", func := "flashcache/flashcachelaw18.ExpiryScript", spec := "expiryScript", unfollowed := true, recurses := true, apart := false }
def ExpiryScriptSaid : Prop := expiryScriptRow.holds Try.pinned (OpenSpec.ofChange expiryScriptSpec)

/-- ITS FALSE NEIGHBOUR: 'it returns false'. Refute it at one input. -/
def expiryScriptWrong : ChangeSpec := { name := "expiryScript", fn := fun _ => fun
  | [d] => { results := [.lit (.bool false)], args := [d] }
  | _ => none }
def ExpiryScriptWrongFalsely : Prop := expiryScriptRow.holds Try.pinned (OpenSpec.ofChange expiryScriptWrong)

/-- 'flashcachelaw18.ExpiryNone': WHATEVER THE INPUT: true; the input reads as it did. -/
def expiryNoneSpec : ChangeSpec := { name := "expiryNone", fn := fun _ => fun
  | [] => { results := [.lit (.bool true)], args := [] }
  | _ => none }
def expiryNoneRow : OpenClaim := { program := "ytmbjkkoennadkaa", sum := "626895b6402725cf1c97062e44d6e72c92f1e22d12c8367f05eaf5086b678d4a", func := "flashcache/flashcachelaw18.ExpiryNone", spec := "expiryNone", unfollowed := true, recurses := true, apart := false }
def ExpiryNoneSaid : Prop := expiryNoneRow.holds Try.pinned (OpenSpec.ofChange expiryNoneSpec)

/-- ITS FALSE NEIGHBOUR: 'it returns false'. Refute it at one input. -/
def expiryNoneWrong : ChangeSpec := { name := "expiryNone", fn := fun _ => fun
  | [] => { results := [.lit (.bool false)], args := [] }
  | _ => none }
def ExpiryNoneWrongFalsely : Prop := expiryNoneRow.holds Try.pinned (OpenSpec.ofChange expiryNoneWrong)

/- THE SECOND FORM. 'bulk': how many values and letters a reading holds, each counted each time it is reached (what is shared counts as often as it is met; a slice's spare places count too). A statement '..UptoSaid' is the law's where the arguments, and the package variables that the reading takes, are together of bulk at most 1048576: NARROWER than '..Said'. Prove '..Said' where nothing that the law and all that it calls make is longer than what came in: it says more and counts as full. Else prove '..UptoSaid'. A law counts once. -/
mutual
def uptoBulk {H : Type} : DataW H → Nat
  | .lit (.string bytes) => bytes.length + 1
  | .lit _ => 1
  | .nil => 1
  | .ptr d => uptoBulk d + 1
  | .slice elems spare => uptoBulkAll elems + uptoBulkAll spare + 1
  | .agg parts => uptoBulkAll parts + 1
  | .iface _ d => uptoBulk d + 1
  | .map entries => uptoBulkEntries entries + 1
  | .held _ => 1
def uptoBulkAll {H : Type} : List (DataW H) → Nat
  | [] => 0
  | d :: r => uptoBulk d + uptoBulkAll r
def uptoBulkEntries {H : Type} : List (Lit × DataW H) → Nat
  | [] => 0
  | x :: r => uptoBulkEntry x + uptoBulkEntries r
def uptoBulkEntry {H : Type} : Lit × DataW H → Nat
  | (.string bytes, d) => bytes.length + uptoBulk d + 1
  | (_, d) => uptoBulk d + 1
 end
def uptoSmall : (H : Type) → List (DataW H) → Bool := fun _ ds => decide (uptoBulkAll ds ≤ 1048576)
def OpenSpec.upto (s : _root_.Go.ChangeSpec) : _root_.Go.OpenSpec := { _root_.Go.OpenSpec.ofChange s with cond := some uptoSmall }

/-- 'flashcachelaw18.ExpiryOrder', WHERE WHAT IT READS IS OF BULK AT MOST 1048576: true; the input reads as it did. -/
def expiryOrderUptoRow : OpenClaim := { program := "ytmbjkkoennadkaa", sum := "626895b6402725cf1c97062e44d6e72c92f1e22d12c8367f05eaf5086b678d4a", func := "flashcache/flashcachelaw18.ExpiryOrder", spec := "expiryOrder", unfollowed := true, recurses := true, apart := false, narrowed := true }
def ExpiryOrderUptoSaid : Prop := expiryOrderUptoRow.holds Try.pinned (OpenSpec.upto expiryOrderSpec)

/-- 'flashcachelaw18.ExpiryLast', WHERE WHAT IT READS IS OF BULK AT MOST 1048576: true; the input reads as it did. -/
def expiryLastUptoRow : OpenClaim := { program := "ytmbjkkoennadkaa", sum := "626895b6402725cf1c97062e44d6e72c92f1e22d12c8367f05eaf5086b678d4a", func := "flashcache/flashcachelaw18.ExpiryLast", spec := "expiryLast", unfollowed := true, recurses := true, apart := false, narrowed := true }
def ExpiryLastUptoSaid : Prop := expiryLastUptoRow.holds Try.pinned (OpenSpec.upto expiryLastSpec)

/-- 'flashcachelaw18.ExpiryScript', WHERE WHAT IT READS IS OF BULK AT MOST 1048576: true; the input reads as it did. -/
def expiryScriptUptoRow : OpenClaim := { program := "ytmbjkkoennadkaa", sum := "626895b6402725cf1c97062e44d6e72c92f1e22d12c8367f05eaf5086b678d4a", func := "flashcache/flashcachelaw18.ExpiryScript", spec := "expiryScript", unfollowed := true, recurses := true, apart := false, narrowed := true }
def ExpiryScriptUptoSaid : Prop := expiryScriptUptoRow.holds Try.pinned (OpenSpec.upto expiryScriptSpec)

/-- 'flashcachelaw18.ExpiryNone', WHERE WHAT IT READS IS OF BULK AT MOST 1048576: true; the input reads as it did. -/
def expiryNoneUptoRow : OpenClaim := { program := "ytmbjkkoennadkaa", sum := "626895b6402725cf1c97062e44d6e72c92f1e22d12c8367f05eaf5086b678d4a", func := "flashcache/flashcachelaw18.ExpiryNone", spec := "expiryNone", unfollowed := true, recurses := true, apart := false, narrowed := true }
def ExpiryNoneUptoSaid : Prop := expiryNoneUptoRow.holds Try.pinned (OpenSpec.upto expiryNoneSpec)

end Rows
end Go.Proofs.Ytmbjkkoennadkaa
