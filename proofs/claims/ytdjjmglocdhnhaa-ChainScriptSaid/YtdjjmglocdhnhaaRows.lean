/-
  No cell of these rows narrows 'for every input' (looked for: loops, veiled, ifaces, maps, wideKeys, modest, calm, conditions, laid).
  DERIVED. THE GIVEN ROWS OF THIS SEAT. 3 by the template 'for every input the law returns true; each argument reads behind the call as it read before'; 0 by the template 'total and deterministic' (their statements: YtdjjmglocdhnhaaTotals.lean).
  GIVEN WITH THE SEED: the statements are not yours to turn. If you find one false, say at which input.
  Laid BY PROGRAM, IN A SANDBOX (cutbox-rows.mjs): the forced cells as the released guide's own fill.sh prints them over the translation b9a329df6b9e3c3e… (all of the seat's roots in one cut). By AI agents, Wed Nov 11 2026. No macro, syntax, notation, axiom, sorry.
-/
import Derived.Test.YtdjjmglocdhnhaaChecked
import GoSem.Claim
import GoSem.ClaimJoined
import GoSem.ClaimMapViews
import Derived.JoinedTies
import Derived.KernelRfl
namespace Go.Proofs.Ytdjjmglocdhnhaa
/- THE CELL 'sum', in the pinned program and in every row, IS THE sha256 OF THE DUMP (.gsa) THAT YtdjjmglocdhnhaaProg.lean LOADS. Nothing in Lean hashes anything: it is a label: what it is worth is what the hold of that sum in a sandbox is worth. -/
noncomputable def Try.pinned : Pinned := { name := "ytdjjmglocdhnhaa", sum := "b9a329df6b9e3c3e7ed7f3b9f1b563e72b462e71f9053782e45e452e56944df9", checked := Try.checked }
namespace Rows
def none {H : Type} : Left H := { results := [], args := [] }

/-- 'flashcachelaw17.ChainDrop': WHATEVER THE INPUT: true; the input reads as it did. -/
def chainDropSpec : ChangeSpec := { name := "chainDrop", fn := fun _ => fun
  | [d1, d2] => { results := [.lit (.bool true)], args := [d1, d2] }
  | _ => none }
def chainDropRow : OpenClaim := { program := "ytdjjmglocdhnhaa", sum := "b9a329df6b9e3c3e7ed7f3b9f1b563e72b462e71f9053782e45e452e56944df9", func := "flashcache/flashcachelaw17.ChainDrop", spec := "chainDrop", unfollowed := true, recurses := true, apart := false }
def ChainDropSaid : Prop := chainDropRow.holds Try.pinned (OpenSpec.ofChange chainDropSpec)

/-- ITS FALSE NEIGHBOUR: 'it returns false'. Refute it at one input. -/
def chainDropWrong : ChangeSpec := { name := "chainDrop", fn := fun _ => fun
  | [d1, d2] => { results := [.lit (.bool false)], args := [d1, d2] }
  | _ => none }
def ChainDropWrongFalsely : Prop := chainDropRow.holds Try.pinned (OpenSpec.ofChange chainDropWrong)

/-- 'flashcachelaw17.ChainScript': WHATEVER THE INPUT: true; the input reads as it did. -/
def chainScriptSpec : ChangeSpec := { name := "chainScript", fn := fun _ => fun
  | [d] => { results := [.lit (.bool true)], args := [d] }
  | _ => none }
def chainScriptRow : OpenClaim := { program := "ytdjjmglocdhnhaa", sum := "b9a329df6b9e3c3e7ed7f3b9f1b563e72b462e71f9053782e45e452e56944df9", func := "flashcache/flashcachelaw17.ChainScript", spec := "chainScript", unfollowed := true, recurses := true, apart := false }
def ChainScriptSaid : Prop := chainScriptRow.holds Try.pinned (OpenSpec.ofChange chainScriptSpec)

/-- ITS FALSE NEIGHBOUR: 'it returns false'. Refute it at one input. -/
def chainScriptWrong : ChangeSpec := { name := "chainScript", fn := fun _ => fun
  | [d] => { results := [.lit (.bool false)], args := [d] }
  | _ => none }
def ChainScriptWrongFalsely : Prop := chainScriptRow.holds Try.pinned (OpenSpec.ofChange chainScriptWrong)

/-- 'flashcachelaw17.ChainOwn': WHATEVER THE INPUT: true; the input reads as it did. -/
def chainOwnSpec : ChangeSpec := { name := "chainOwn", fn := fun _ => fun
  | [d1, d2] => { results := [.lit (.bool true)], args := [d1, d2] }
  | _ => none }
def chainOwnRow : OpenClaim := { program := "ytdjjmglocdhnhaa", sum := "b9a329df6b9e3c3e7ed7f3b9f1b563e72b462e71f9053782e45e452e56944df9", func := "flashcache/flashcachelaw17.ChainOwn", spec := "chainOwn", unfollowed := true, recurses := true, apart := false }
def ChainOwnSaid : Prop := chainOwnRow.holds Try.pinned (OpenSpec.ofChange chainOwnSpec)

/-- ITS FALSE NEIGHBOUR: 'it returns false'. Refute it at one input. -/
def chainOwnWrong : ChangeSpec := { name := "chainOwn", fn := fun _ => fun
  | [d1, d2] => { results := [.lit (.bool false)], args := [d1, d2] }
  | _ => none }
def ChainOwnWrongFalsely : Prop := chainOwnRow.holds Try.pinned (OpenSpec.ofChange chainOwnWrong)

/- THE SECOND FORM. 'bulk': how many values and letters a reading holds, each counted each time it is reached (what is shared counts as often as it is met; a slice's spare places count too). A statement '..UptoSaid' is the law's where the arguments, and the package variables that the reading takes, are together of bulk at most 1048576: NARROWER than '..Said'. Prove '..Said' where nothing that the law and all that it calls make is longer than what came in: it says more and counts as full. Else prove '..UptoSaid'. A law counts once. -/
mutual
def uptoBulk {H : Type} : DataW H → Nat
  | .lit (.string bytes) => bytes.length + 1
  | .lit _ => 1
  | .nil => 1
  | .ptr d => uptoBulk d + 1
  | .slice elems spare => uptoBulkAll elems + uptoBulkAll spare + 1
  | .agg parts => uptoBulkAll parts + 1
  | .iface _ d => uptoBulk d + 1
  | .map entries => uptoBulkEntries entries + 1
  | .held _ => 1
def uptoBulkAll {H : Type} : List (DataW H) → Nat
  | [] => 0
  | d :: r => uptoBulk d + uptoBulkAll r
def uptoBulkEntries {H : Type} : List (Lit × DataW H) → Nat
  | [] => 0
  | x :: r => uptoBulkEntry x + uptoBulkEntries r
def uptoBulkEntry {H : Type} : Lit × DataW H → Nat
  | (.string bytes, d) => bytes.length + uptoBulk d + 1
  | (_, d) => uptoBulk d + 1
 end
def uptoSmall : (H : Type) → List (DataW H) → Bool := fun _ ds => decide (uptoBulkAll ds ≤ 1048576)
def OpenSpec.upto (s : _root_.Go.ChangeSpec) : _root_.Go.OpenSpec := { _root_.Go.OpenSpec.ofChange s with cond := some uptoSmall }

/-- 'flashcachelaw17.ChainDrop', WHERE WHAT IT READS IS OF BULK AT MOST 1048576: true; the input reads as it did. -/
def chainDropUptoRow : OpenClaim := { program := "ytdjjmglocdhnhaa", sum := "b9a329df6b9e3c3e7ed7f3b9f1b563e72b462e71f9053782e45e452e56944df9", func := "flashcache/flashcachelaw17.ChainDrop", spec := "chainDrop", unfollowed := true, recurses := true, apart := false, narrowed := true }
def ChainDropUptoSaid : Prop := chainDropUptoRow.holds Try.pinned (OpenSpec.upto chainDropSpec)

/-- 'flashcachelaw17.ChainScript', WHERE WHAT IT READS IS OF BULK AT MOST 1048576: true; the input reads as it did. -/
def chainScriptUptoRow : OpenClaim := { program := "ytdjjmglocdhnhaa", sum := "b9a329df6b9e3c3e7ed7f3b9f1b563e72b462e71f9053782e45e452e56944df9", func := "flashcache/flashcachelaw17.ChainScript", spec := "chainScript", unfollowed := true, recurses := true, apart := false, narrowed := true }
def ChainScriptUptoSaid : Prop := chainScriptUptoRow.holds Try.pinned (OpenSpec.upto chainScriptSpec)

/-- 'flashcachelaw17.ChainOwn', WHERE WHAT IT READS IS OF BULK AT MOST 1048576: true; the input reads as it did. -/
def chainOwnUptoRow : OpenClaim := { program := "ytdjjmglocdhnhaa", sum := "b9a329df6b9e3c3e7ed7f3b9f1b563e72b462e71f9053782e45e452e56944df9", func := "flashcache/flashcachelaw17.ChainOwn", spec := "chainOwn", unfollowed := true, recurses := true, apart := false, narrowed := true }
def ChainOwnUptoSaid : Prop := chainOwnUptoRow.holds Try.pinned (OpenSpec.upto chainOwnSpec)

end Rows
end Go.Proofs.Ytdjjmglocdhnhaa
