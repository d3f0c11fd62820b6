/-
  No cell of these rows narrows 'for every input' (looked for: loops, veiled, ifaces, maps, wideKeys, modest, calm, conditions, laid).
  DERIVED. THE GIVEN ROWS OF THIS SEAT. 5 by the template 'for every input the law returns true; each argument reads behind the call as it read before'; 0 by the template 'total and deterministic' (their statements: YtolfepbelekcoaaTotals.lean).
  GIVEN WITH THE SEED: the statements are not yours to turn. If you find one false, say at which input.
  Laid BY PROGRAM, IN A SANDBOX (cutbox-rows.mjs): the forced cells as the released guide's own fill.sh prints them over the translation 935e6dac0ae2ca64… (all of the seat's roots in one cut). By AI agents, Wed Nov 11 2026. No macro, syntax, notation, axiom, sorry.
-/
import Derived.Test.YtolfepbelekcoaaChecked
import GoSem.Claim
import GoSem.ClaimJoined
import GoSem.ClaimMapViews
import Derived.JoinedTies
import Derived.KernelRfl
namespace Go.Proofs.Ytolfepbelekcoaa
/- THE CELL 'sum', in the pinned program and in every row, IS THE sha256 OF THE DUMP (.gsa) THAT YtolfepbelekcoaaProg.lean LOADS. Nothing in Lean hashes anything: it is a label: what it is worth is what the hold of that sum in a sandbox is worth. -/
noncomputable def Try.pinned : Pinned := { name := "ytolfepbelekcoaa", sum := "935e6dac0ae2ca64aa15354d5aa11a29a37e23816e0594f0b453fcb5b0ccfadb", checked := Try.checked }
namespace Rows
def none {H : Type} : Left H := { results := [], args := [] }

/-- 'flashcachelaw12.GeometryOverlap': WHATEVER THE INPUT: true; the input reads as it did. -/
def geometryOverlapSpec : ChangeSpec := { name := "geometryOverlap", fn := fun _ => fun
  | [d] => { results := [.lit (.bool true)], args := [d] }
  | _ => none }
def geometryOverlapRow : OpenClaim := { program := "ytolfepbelekcoaa", sum := "935e6dac0ae2ca64aa15354d5aa11a29a37e23816e0594f0b453fcb5b0ccfadb", func := "flashcache/flashcachelaw12.GeometryOverlap", spec := "geometryOverlap", apart := false }
def GeometryOverlapSaid : Prop := geometryOverlapRow.holds Try.pinned (OpenSpec.ofChange geometryOverlapSpec)

/-- ITS FALSE NEIGHBOUR: 'it returns false'. Refute it at one input. -/
def geometryOverlapWrong : ChangeSpec := { name := "geometryOverlap", fn := fun _ => fun
  | [d] => { results := [.lit (.bool false)], args := [d] }
  | _ => none }
def GeometryOverlapWrongFalsely : Prop := geometryOverlapRow.holds Try.pinned (OpenSpec.ofChange geometryOverlapWrong)

/-- 'flashcachelaw12.GeometryHalf': WHATEVER THE INPUT: true; the input reads as it did. -/
def geometryHalfSpec : ChangeSpec := { name := "geometryHalf", fn := fun _ => fun
  | [d1, d2, d3] => { results := [.lit (.bool true)], args := [d1, d2, d3] }
  | _ => none }
def geometryHalfRow : OpenClaim := { program := "ytolfepbelekcoaa", sum := "935e6dac0ae2ca64aa15354d5aa11a29a37e23816e0594f0b453fcb5b0ccfadb", func := "flashcache/flashcachelaw12.GeometryHalf", spec := "geometryHalf", apart := false }
def GeometryHalfSaid : Prop := geometryHalfRow.holds Try.pinned (OpenSpec.ofChange geometryHalfSpec)

/-- ITS FALSE NEIGHBOUR: 'it returns false'. Refute it at one input. -/
def geometryHalfWrong : ChangeSpec := { name := "geometryHalf", fn := fun _ => fun
  | [d1, d2, d3] => { results := [.lit (.bool false)], args := [d1, d2, d3] }
  | _ => none }
def GeometryHalfWrongFalsely : Prop := geometryHalfRow.holds Try.pinned (OpenSpec.ofChange geometryHalfWrong)

/-- 'flashcachelaw12.GeometryPlaces': WHATEVER THE INPUT: true; the input reads as it did. -/
def geometryPlacesSpec : ChangeSpec := { name := "geometryPlaces", fn := fun _ => fun
  | [d1, d2, d3] => { results := [.lit (.bool true)], args := [d1, d2, d3] }
  | _ => none }
def geometryPlacesRow : OpenClaim := { program := "ytolfepbelekcoaa", sum := "935e6dac0ae2ca64aa15354d5aa11a29a37e23816e0594f0b453fcb5b0ccfadb", func := "flashcache/flashcachelaw12.GeometryPlaces", spec := "geometryPlaces", apart := false }
def GeometryPlacesSaid : Prop := geometryPlacesRow.holds Try.pinned (OpenSpec.ofChange geometryPlacesSpec)

/-- ITS FALSE NEIGHBOUR: 'it returns false'. Refute it at one input. -/
def geometryPlacesWrong : ChangeSpec := { name := "geometryPlaces", fn := fun _ => fun
  | [d1, d2, d3] => { results := [.lit (.bool false)], args := [d1, d2, d3] }
  | _ => none }
def GeometryPlacesWrongFalsely : Prop := geometryPlacesRow.holds Try.pinned (OpenSpec.ofChange geometryPlacesWrong)

/-- 'flashcachelaw12.GeometryFree': WHATEVER THE INPUT: true; the input reads as it did. -/
def geometryFreeSpec : ChangeSpec := { name := "geometryFree", fn := fun _ => fun
  | [d1, d2] => { results := [.lit (.bool true)], args := [d1, d2] }
  | _ => none }
def geometryFreeRow : OpenClaim := { program := "ytolfepbelekcoaa", sum := "935e6dac0ae2ca64aa15354d5aa11a29a37e23816e0594f0b453fcb5b0ccfadb", func := "flashcache/flashcachelaw12.GeometryFree", spec := "geometryFree", unfollowed := true, recurses := true, apart := false }
def GeometryFreeSaid : Prop := geometryFreeRow.holds Try.pinned (OpenSpec.ofChange geometryFreeSpec)

/-- ITS FALSE NEIGHBOUR: 'it returns false'. Refute it at one input. -/
def geometryFreeWrong : ChangeSpec := { name := "geometryFree", fn := fun _ => fun
  | [d1, d2] => { results := [.lit (.bool false)], args := [d1, d2] }
  | _ => none }
def GeometryFreeWrongFalsely : Prop := geometryFreeRow.holds Try.pinned (OpenSpec.ofChange geometryFreeWrong)

/-- 'flashcachelaw12.GeometryTile': WHATEVER THE INPUT: true; the input reads as it did. -/
def geometryTileSpec : ChangeSpec := { name := "geometryTile", fn := fun _ => fun
  | [d1, d2] => { results := [.lit (.bool true)], args := [d1, d2] }
  | _ => none }
def geometryTileRow : OpenClaim := { program := "ytolfepbelekcoaa", sum := "935e6dac0ae2ca64aa15354d5aa11a29a37e23816e0594f0b453fcb5b0ccfadb", func := "flashcache/flashcachelaw12.GeometryTile", spec := "geometryTile", unfollowed := true, recurses := true, apart := false }
def GeometryTileSaid : Prop := geometryTileRow.holds Try.pinned (OpenSpec.ofChange geometryTileSpec)

/-- ITS FALSE NEIGHBOUR: 'it returns false'. Refute it at one input. -/
def geometryTileWrong : ChangeSpec := { name := "geometryTile", fn := fun _ => fun
  | [d1, d2] => { results := [.lit (.bool false)], args := [d1, d2] }
  | _ => none }
def GeometryTileWrongFalsely : Prop := geometryTileRow.holds Try.pinned (OpenSpec.ofChange geometryTileWrong)

/- THE SECOND FORM. 'bulk': how many values and letters a reading holds, each counted each time it is reached (what is shared counts as often as it is met; a slice's spare places count too). A statement '..UptoSaid' is the law's where the arguments, and the package variables that the reading takes, are together of bulk at most 1048576: NARROWER than '..Said'. Prove '..Said' where nothing that the law and all that it calls make is longer than what came in: it says more and counts as full. Else prove '..UptoSaid'. A law counts once. -/
mutual
def uptoBulk {H : Type} : DataW H → Nat
  | .lit (.string bytes) => bytes.length + 1
  | .lit _ => 1
  | .nil => 1
  | .ptr d => uptoBulk d + 1
  | .slice elems spare => uptoBulkAll elems + uptoBulkAll spare + 1
  | .agg parts => uptoBulkAll parts + 1
  | .iface _ d => uptoBulk d + 1
  | .map entries => uptoBulkEntries entries + 1
  | .held _ => 1
def uptoBulkAll {H : Type} : List (DataW H) → Nat
  | [] => 0
  | d :: r => uptoBulk d + uptoBulkAll r
def uptoBulkEntries {H : Type} : List (Lit × DataW H) → Nat
  | [] => 0
  | x :: r => uptoBulkEntry x + uptoBulkEntries r
def uptoBulkEntry {H : Type} : Lit × DataW H → Nat
  | (.string bytes, d) => bytes.length + uptoBulk d + 1
  | (_, d) => uptoBulk d + 1
 end
def uptoSmall : (H : Type) → List (DataW H) → Bool := fun _ ds => decide (uptoBulkAll ds ≤ 1048576)
def OpenSpec.upto (s : _root_.Go.ChangeSpec) : _root_.Go.OpenSpec := { _root_.Go.OpenSpec.ofChange s with cond := some uptoSmall }

/-- 'flashcachelaw12.GeometryOverlap', WHERE WHAT IT READS IS OF BULK AT MOST 1048576: true; the input reads as it did. -/
def geometryOverlapUptoRow : OpenClaim := { program := "ytolfepbelekcoaa", sum := "935e6dac0ae2ca64aa15354d5aa11a29a37e23816e0594f0b453fcb5b0ccfadb", func := "flashcache/flashcachelaw12.GeometryOverlap", spec := "geometryOverlap", apart := false, narrowed := true }
def GeometryOverlapUptoSaid : Prop := geometryOverlapUptoRow.holds Try.pinned (OpenSpec.upto geometryOverlapSpec)

/-- 'flashcachelaw12.GeometryHalf', WHERE WHAT IT READS IS OF BULK AT MOST 1048576: true; the input reads as it did. -/
def geometryHalfUptoRow : OpenClaim := { program := "ytolfepbelekcoaa", sum := "935e6dac0ae2ca64aa15354d5aa11a29a37e23816e0594f0b453fcb5b0ccfadb", func := "flashcache/flashcachelaw12.GeometryHalf", spec := "geometryHalf", apart := false, narrowed := true }
def GeometryHalfUptoSaid : Prop := geometryHalfUptoRow.holds Try.pinned (OpenSpec.upto geometryHalfSpec)

/-- 'flashcachelaw12.GeometryPlaces', WHERE WHAT IT READS IS OF BULK AT MOST 1048576: true; the input reads as it did. -/
def geometryPlacesUptoRow : OpenClaim := { program := "ytolfepbelekcoaa", sum := "935e6dac0ae2ca64aa15354d5aa11a29a37e23816e0594f0b453fcb5b0ccfadb", func := "flashcache/flashcachelaw12.GeometryPlaces", spec := "geometryPlaces", apart := false, narrowed := true }
def GeometryPlacesUptoSaid : Prop := geometryPlacesUptoRow.holds Try.pinned (OpenSpec.upto geometryPlacesSpec)

/-- 'flashcachelaw12.GeometryFree', WHERE WHAT IT READS IS OF BULK AT MOST 1048576: true; the input reads as it did. -/
def geometryFreeUptoRow : OpenClaim := { program := "ytolfepbelekcoaa", sum := "935e6dac0ae2ca64aa15354d5aa11a29a37e23816e0594f0b453fcb5b0ccfadb", func := "flashcache/flashcachelaw12.GeometryFree", spec := "geometryFree", unfollowed := true, recurses := true, apart := false, narrowed := true }
def GeometryFreeUptoSaid : Prop := geometryFreeUptoRow.holds Try.pinned (OpenSpec.upto geometryFreeSpec)

/-- 'flashcachelaw12.GeometryTile', WHERE WHAT IT READS IS OF BULK AT MOST 1048576: true; the input reads as it did. -/
def geometryTileUptoRow : OpenClaim := { program := "ytolfepbelekcoaa", sum := "935e6dac0ae2ca64aa15354d5aa11a29a37e23816e0594f0b453fcb5b0ccfadb", func := "flashcache/flashcachelaw12.GeometryTile", spec := "geometryTile", unfollowed := true, recurses := true, apart := false, narrowed := true }
def GeometryTileUptoSaid : Prop := geometryTileUptoRow.holds Try.pinned (OpenSpec.upto geometryTileSpec)

end Rows
end Go.Proofs.Ytolfepbelekcoaa
