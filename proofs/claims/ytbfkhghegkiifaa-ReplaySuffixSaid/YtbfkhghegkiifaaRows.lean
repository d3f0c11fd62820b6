/-
  No cell of these rows narrows 'for every input' (looked for: loops, veiled, ifaces, maps, wideKeys, modest, calm, conditions, laid).
  DERIVED. THE GIVEN ROWS OF THIS SEAT. 4 by the template 'for every input the law returns true; each argument reads behind the call as it read before'; 0 by the template 'total and deterministic' (their statements: YtbfkhghegkiifaaTotals.lean).
  GIVEN WITH THE SEED: the statements are not yours to turn. If you find one false, say at which input.
  Laid BY PROGRAM, IN A SANDBOX (cutbox-rows.mjs): the forced cells as the released guide's own fill.sh prints them over the translation 4e1f53ebda476ceb… (all of the seat's roots in one cut). By AI agents, Wed Nov 11 2026. No macro, syntax, notation, axiom, sorry.
-/
import Derived.Test.YtbfkhghegkiifaaChecked
import GoSem.Claim
import GoSem.ClaimJoined
import GoSem.ClaimMapViews
import Derived.JoinedTies
import Derived.KernelRfl
namespace Go.Proofs.Ytbfkhghegkiifaa
/- THE CELL 'sum', in the pinned program and in every row, IS THE sha256 OF THE DUMP (.gsa) THAT YtbfkhghegkiifaaProg.lean LOADS. Nothing in Lean hashes anything: it is a label: what it is worth is what the hold of that sum in a sandbox is worth. -/
noncomputable def Try.pinned : Pinned := { name := "ytbfkhghegkiifaa", sum := "4e1f53ebda476cebcec21c1f8a37b6c47e6704c315dd4641937a6385e4556fc8", checked := Try.checked }
namespace Rows
def none {H : Type} : Left H := { results := [], args := [] }

/-- 'flashcachelaw22.ReplayMap': WHATEVER THE INPUT: true; the input reads as it did. -/
def replayMapSpec : ChangeSpec := { name := "replayMap", fn := fun _ => fun
  | [d1, d2] => { results := [.lit (.bool true)], args := [d1, d2] }
  | _ => none }
def replayMapRow : OpenClaim := { program := "ytbfkhghegkiifaa", sum := "4e1f53ebda476cebcec21c1f8a37b6c47e6704c315dd4641937a6385e4556fc8", func := "flashcache/flashcachelaw22.ReplayMap", spec := "replayMap", unfollowed := true, recurses := true, apart := false }
def ReplayMapSaid : Prop := replayMapRow.holds Try.pinned (OpenSpec.ofChange replayMapSpec)

/-- ITS FALSE NEIGHBOUR: 'it returns false'. Refute it at one input. -/
def replayMapWrong : ChangeSpec := { name := "replayMap", fn := fun _ => fun
  | [d1, d2] => { results := [.lit (.bool false)], args := [d1, d2] }
  | _ => none }
def ReplayMapWrongFalsely : Prop := replayMapRow.holds Try.pinned (OpenSpec.ofChange replayMapWrong)

/-- 'flashcachelaw22.ReplaySuffix': WHATEVER THE INPUT: true; the input reads as it did. -/
def replaySuffixSpec : ChangeSpec := { name := "replaySuffix", fn := fun _ => fun
  | [d1, d2, d3] => { results := [.lit (.bool true)], args := [d1, d2, d3] }
  | _ => none }
def replaySuffixRow : OpenClaim := { program := "ytbfkhghegkiifaa", sum := "4e1f53ebda476cebcec21c1f8a37b6c47e6704c315dd4641937a6385e4556fc8", func := "flashcache/flashcachelaw22.ReplaySuffix", spec := "replaySuffix", unfollowed := true, recurses := true, apart := false }
def ReplaySuffixSaid : Prop := replaySuffixRow.holds Try.pinned (OpenSpec.ofChange replaySuffixSpec)

/-- ITS FALSE NEIGHBOUR: 'it returns false'. Refute it at one input. -/
def replaySuffixWrong : ChangeSpec := { name := "replaySuffix", fn := fun _ => fun
  | [d1, d2, d3] => { results := [.lit (.bool false)], args := [d1, d2, d3] }
  | _ => none }
def ReplaySuffixWrongFalsely : Prop := replaySuffixRow.holds Try.pinned (OpenSpec.ofChange replaySuffixWrong)

/-- 'flashcachelaw22.ReplayLater': WHATEVER THE INPUT: true; the input reads as it did. -/
def replayLaterSpec : ChangeSpec := { name := "replayLater", fn := fun _ => fun
  | [d1, d2, d3] => { results := [.lit (.bool true)], args := [d1, d2, d3] }
  | _ => none }
def replayLaterRow : OpenClaim := { program := "ytbfkhghegkiifaa", sum := "4e1f53ebda476cebcec21c1f8a37b6c47e6704c315dd4641937a6385e4556fc8", func := "flashcache/flashcachelaw22.ReplayLater", spec := "replayLater", unfollowed := true, recurses := true, apart := false }
def ReplayLaterSaid : Prop := replayLaterRow.holds Try.pinned (OpenSpec.ofChange replayLaterSpec)

/-- ITS FALSE NEIGHBOUR: 'it returns false'. Refute it at one input. -/
def replayLaterWrong : ChangeSpec := { name := "replayLater", fn := fun _ => fun
  | [d1, d2, d3] => { results := [.lit (.bool false)], args := [d1, d2, d3] }
  | _ => none }
def ReplayLaterWrongFalsely : Prop := replayLaterRow.holds Try.pinned (OpenSpec.ofChange replayLaterWrong)

/-- 'flashcachelaw22.ReplayFlush': WHATEVER THE INPUT: true; the input reads as it did. -/
def replayFlushSpec : ChangeSpec := { name := "replayFlush", fn := fun _ => fun
  | [d1, d2, d3] => { results := [.lit (.bool true)], args := [d1, d2, d3] }
  | _ => none }
def replayFlushRow : OpenClaim := { program := "ytbfkhghegkiifaa", sum := "4e1f53ebda476cebcec21c1f8a37b6c47e6704c315dd4641937a6385e4556fc8", func := "flashcache/flashcachelaw22.ReplayFlush", spec := "replayFlush", unfollowed := true, recurses := true, apart := false }
def ReplayFlushSaid : Prop := replayFlushRow.holds Try.pinned (OpenSpec.ofChange replayFlushSpec)

/-- ITS FALSE NEIGHBOUR: 'it returns false'. Refute it at one input. -/
def replayFlushWrong : ChangeSpec := { name := "replayFlush", fn := fun _ => fun
  | [d1, d2, d3] => { results := [.lit (.bool false)], args := [d1, d2, d3] }
  | _ => none }
def ReplayFlushWrongFalsely : Prop := replayFlushRow.holds Try.pinned (OpenSpec.ofChange replayFlushWrong)

/- THE SECOND FORM. 'bulk': how many values and letters a reading holds, each counted each time it is reached (what is shared counts as often as it is met; a slice's spare places count too). A statement '..UptoSaid' is the law's where the arguments, and the package variables that the reading takes, are together of bulk at most 1048576: NARROWER than '..Said'. Prove '..Said' where nothing that the law and all that it calls make is longer than what came in: it says more and counts as full. Else prove '..UptoSaid'. A law counts once. -/
mutual
def uptoBulk {H : Type} : DataW H → Nat
  | .lit (.string bytes) => bytes.length + 1
  | .lit _ => 1
  | .nil => 1
  | .ptr d => uptoBulk d + 1
  | .slice elems spare => uptoBulkAll elems + uptoBulkAll spare + 1
  | .agg parts => uptoBulkAll parts + 1
  | .iface _ d => uptoBulk d + 1
  | .map entries => uptoBulkEntries entries + 1
  | .held _ => 1
def uptoBulkAll {H : Type} : List (DataW H) → Nat
  | [] => 0
  | d :: r => uptoBulk d + uptoBulkAll r
def uptoBulkEntries {H : Type} : List (Lit × DataW H) → Nat
  | [] => 0
  | x :: r => uptoBulkEntry x + uptoBulkEntries r
def uptoBulkEntry {H : Type} : Lit × DataW H → Nat
  | (.string bytes, d) => bytes.length + uptoBulk d + 1
  | (_, d) => uptoBulk d + 1
 end
def uptoSmall : (H : Type) → List (DataW H) → Bool := fun _ ds => decide (uptoBulkAll ds ≤ 1048576)
def OpenSpec.upto (s : _root_.Go.ChangeSpec) : _root_.Go.OpenSpec := { _root_.Go.OpenSpec.ofChange s with cond := some uptoSmall }

/-- 'flashcachelaw22.ReplayMap', WHERE WHAT IT READS IS OF BULK AT MOST 1048576: true; the input reads as it did. -/
def replayMapUptoRow : OpenClaim := { program := "ytbfkhghegkiifaa", sum := "4e1f53ebda476cebcec21c1f8a37b6c47e6704c315dd4641937a6385e4556fc8", func := "flashcache/flashcachelaw22.ReplayMap", spec := "replayMap", unfollowed := true, recurses := true, apart := false, narrowed := true }
def ReplayMapUptoSaid : Prop := replayMapUptoRow.holds Try.pinned (OpenSpec.upto replayMapSpec)

/-- 'flashcachelaw22.ReplaySuffix', WHERE WHAT IT READS IS OF BULK AT MOST 1048576: true; the input reads as it did. -/
def replaySuffixUptoRow : OpenClaim := { program := "ytbfkhghegkiifaa", sum := "4e1f53ebda476cebcec21c1f8a37b6c47e6704c315dd4641937a6385e4556fc8", func := "flashcache/flashcachelaw22.ReplaySuffix", spec := "replaySuffix", unfollowed := true, recurses := true, apart := false, narrowed := true }
def ReplaySuffixUptoSaid : Prop := replaySuffixUptoRow.holds Try.pinned (OpenSpec.upto replaySuffixSpec)

/-- 'flashcachelaw22.ReplayLater', WHERE WHAT IT READS IS OF BULK AT MOST 1048576: true; the input reads as it did. -/
def replayLaterUptoRow : OpenClaim := { program := "ytbfkhghegkiifaa", sum := "4e1f53ebda476cebcec21c1f8a37b6c47e6704c315dd4641937a6385e4556fc8", func := "flashcache/flashcachelaw22.ReplayLater", spec := "replayLater", unfollowed := true, recurses := true, apart := false, narrowed := true }
def ReplayLaterUptoSaid : Prop := replayLaterUptoRow.holds Try.pinned (OpenSpec.upto replayLaterSpec)

/-- 'flashcachelaw22.ReplayFlush', WHERE WHAT IT READS IS OF BULK AT MOST 1048576: true; the input reads as it did. -/
def replayFlushUptoRow : OpenClaim := { program := "ytbfkhghegkiifaa", sum := "4e1f53ebda476cebcec21c1f8a37b6c47e6704c315dd4641937a6385e4556fc8", func := "flashcache/flashcachelaw22.ReplayFlush", spec := "replayFlush", unfollowed := true, recurses := true, apart := false, narrowed := true }
def ReplayFlushUptoSaid : Prop := replayFlushUptoRow.holds Try.pinned (OpenSpec.upto replayFlushSpec)

end Rows
end Go.Proofs.Ytbfkhghegkiifaa
