/-
  No cell of these rows narrows 'for every input' (looked for: loops, veiled, ifaces, maps, wideKeys, modest, calm, conditions, laid).
  DERIVED. THE GIVEN ROWS OF THIS SEAT. 5 by the template 'for every input the law returns true; each argument reads behind the call as it read before'; 0 by the template 'total and deterministic' (their statements: YtkafffoaaklhiaaTotals.lean).
  GIVEN WITH THE SEED: the statements are not yours to turn. If you find one false, say at which input.
  Laid BY PROGRAM, IN A SANDBOX (cutbox-rows.mjs): the forced cells as the released guide's own fill.sh prints them over the translation f177a153c896e262… (all of the seat's roots in one cut). By AI agents, Wed Nov 11 2026. No macro, syntax, notation, axiom, sorry.
-/
import Derived.Test.YtkafffoaaklhiaaChecked
import GoSem.Claim
import GoSem.ClaimJoined
import GoSem.ClaimMapViews
import Derived.JoinedTies
import Derived.KernelRfl
namespace Go.Proofs.Ytkafffoaaklhiaa
/- THE CELL 'sum', in the pinned program and in every row, IS THE sha256 OF THE DUMP (.gsa) THAT YtkafffoaaklhiaaProg.lean LOADS. Nothing in Lean hashes anything: it is a label: what it is worth is what the hold of that sum in a sandbox is worth. -/
noncomputable def Try.pinned : Pinned := { name := "ytkafffoaaklhiaa", sum := "f177a153c896e2628d8035ff70e05959c243fb491f1573789186f9922a45217a", checked := Try.checked }
namespace Rows
def none {H : Type} : Left H := { results := [], args := [] }

/-- 'flashcachelaw21.SlotsChoose': WHATEVER THE INPUT: true; the input reads as it did. -/
def slotsChooseSpec : ChangeSpec := { name := "slotsChoose", fn := fun _ => fun
  | [d1, d2, d3] => { results := [.lit (.bool true)], args := [d1, d2, d3] }
  | _ => none }
def slotsChooseRow : OpenClaim := { program := "ytkafffoaaklhiaa", sum := "f177a153c896e2628d8035ff70e05959c243fb491f1573789186f9922a45217a", func := "flashcache/flashcachelaw21.SlotsChoose", spec := "slotsChoose", unfollowed := true, recurses := true, apart := false }
def SlotsChooseSaid : Prop := slotsChooseRow.holds Try.pinned (OpenSpec.ofChange slotsChooseSpec)

/-- ITS FALSE NEIGHBOUR: 'it returns false'. Refute it at one input. -/
def slotsChooseWrong : ChangeSpec := { name := "slotsChoose", fn := fun _ => fun
  | [d1, d2, d3] => { results := [.lit (.bool false)], args := [d1, d2, d3] }
  | _ => none }
def SlotsChooseWrongFalsely : Prop := slotsChooseRow.holds Try.pinned (OpenSpec.ofChange slotsChooseWrong)

/-- 'flashcachelaw21.SlotsGrow': WHATEVER THE INPUT: true; the input reads as it did. -/
def slotsGrowSpec : ChangeSpec := { name := "slotsGrow", fn := fun _ => fun
  | [d1, d2, d3] => { results := [.lit (.bool true)], args := [d1, d2, d3] }
  | _ => none }
def slotsGrowRow : OpenClaim := { program := "ytkafffoaaklhiaa", sum := "f177a153c896e2628d8035ff70e05959c243fb491f1573789186f9922a45217a", func := "flashcache/flashcachelaw21.SlotsGrow", spec := "slotsGrow", unfollowed := true, recurses := true, apart := false }
def SlotsGrowSaid : Prop := slotsGrowRow.holds Try.pinned (OpenSpec.ofChange slotsGrowSpec)

/-- ITS FALSE NEIGHBOUR: 'it returns false'. Refute it at one input. -/
def slotsGrowWrong : ChangeSpec := { name := "slotsGrow", fn := fun _ => fun
  | [d1, d2, d3] => { results := [.lit (.bool false)], args := [d1, d2, d3] }
  | _ => none }
def SlotsGrowWrongFalsely : Prop := slotsGrowRow.holds Try.pinned (OpenSpec.ofChange slotsGrowWrong)

/-- 'flashcachelaw21.SlotsShrink': WHATEVER THE INPUT: true; the input reads as it did. -/
def slotsShrinkSpec : ChangeSpec := { name := "slotsShrink", fn := fun _ => fun
  | [d1, d2, d3] => { results := [.lit (.bool true)], args := [d1, d2, d3] }
  | _ => none }
def slotsShrinkRow : OpenClaim := { program := "ytkafffoaaklhiaa", sum := "f177a153c896e2628d8035ff70e05959c243fb491f1573789186f9922a45217a", func := "flashcache/flashcachelaw21.SlotsShrink", spec := "slotsShrink", unfollowed := true, recurses := true, apart := false }
def SlotsShrinkSaid : Prop := slotsShrinkRow.holds Try.pinned (OpenSpec.ofChange slotsShrinkSpec)

/-- ITS FALSE NEIGHBOUR: 'it returns false'. Refute it at one input. -/
def slotsShrinkWrong : ChangeSpec := { name := "slotsShrink", fn := fun _ => fun
  | [d1, d2, d3] => { results := [.lit (.bool false)], args := [d1, d2, d3] }
  | _ => none }
def SlotsShrinkWrongFalsely : Prop := slotsShrinkRow.holds Try.pinned (OpenSpec.ofChange slotsShrinkWrong)

/-- 'flashcachelaw21.SlotsEnd': WHATEVER THE INPUT: true; the input reads as it did. -/
def slotsEndSpec : ChangeSpec := { name := "slotsEnd", fn := fun _ => fun
  | [d1, d2, d3] => { results := [.lit (.bool true)], args := [d1, d2, d3] }
  | _ => none }
def slotsEndRow : OpenClaim := { program := "ytkafffoaaklhiaa", sum := "f177a153c896e2628d8035ff70e05959c243fb491f1573789186f9922a45217a", func := "flashcache/flashcachelaw21.SlotsEnd", spec := "slotsEnd", unfollowed := true, recurses := true, apart := false }
def SlotsEndSaid : Prop := slotsEndRow.holds Try.pinned (OpenSpec.ofChange slotsEndSpec)

/-- ITS FALSE NEIGHBOUR: 'it returns false'. Refute it at one input. -/
def slotsEndWrong : ChangeSpec := { name := "slotsEnd", fn := fun _ => fun
  | [d1, d2, d3] => { results := [.lit (.bool false)], args := [d1, d2, d3] }
  | _ => none }
def SlotsEndWrongFalsely : Prop := slotsEndRow.holds Try.pinned (OpenSpec.ofChange slotsEndWrong)

/-- 'flashcachelaw21.SlotsOrder': WHATEVER THE INPUT: true; the input reads as it did. -/
def slotsOrderSpec : ChangeSpec := { name := "slotsOrder", fn := fun _ => fun
  | [d1, d2, d3] => { results := [.lit (.bool true)], args := [d1, d2, d3] }
  | _ => none }
def slotsOrderRow : OpenClaim := { program := "ytkafffoaaklhiaa", sum := "f177a153c896e2628d8035ff70e05959c243fb491f1573789186f9922a45217a", func := "flashcache/flashcachelaw21.SlotsOrder", spec := "slotsOrder", unfollowed := true, recurses := true, apart := false }
def SlotsOrderSaid : Prop := slotsOrderRow.holds Try.pinned (OpenSpec.ofChange slotsOrderSpec)

/-- ITS FALSE NEIGHBOUR: 'it returns false'. Refute it at one input. -/
def slotsOrderWrong : ChangeSpec := { name := "slotsOrder", fn := fun _ => fun
  | [d1, d2, d3] => { results := [.lit (.bool false)], args := [d1, d2, d3] }
  | _ => none }
def SlotsOrderWrongFalsely : Prop := slotsOrderRow.holds Try.pinned (OpenSpec.ofChange slotsOrderWrong)

/- THE SECOND FORM. 'bulk': how many values and letters a reading holds, each counted each time it is reached (what is shared counts as often as it is met; a slice's spare places count too). A statement '..UptoSaid' is the law's where the arguments, and the package variables that the reading takes, are together of bulk at most 1048576: NARROWER than '..Said'. Prove '..Said' where nothing that the law and all that it calls make is longer than what came in: it says more and counts as full. Else prove '..UptoSaid'. A law counts once. -/
mutual
def uptoBulk {H : Type} : DataW H → Nat
  | .lit (.string bytes) => bytes.length + 1
  | .lit _ => 1
  | .nil => 1
  | .ptr d => uptoBulk d + 1
  | .slice elems spare => uptoBulkAll elems + uptoBulkAll spare + 1
  | .agg parts => uptoBulkAll parts + 1
  | .iface _ d => uptoBulk d + 1
  | .map entries => uptoBulkEntries entries + 1
  | .held _ => 1
def uptoBulkAll {H : Type} : List (DataW H) → Nat
  | [] => 0
  | d :: r => uptoBulk d + uptoBulkAll r
def uptoBulkEntries {H : Type} : List (Lit × DataW H) → Nat
  | [] => 0
  | x :: r => uptoBulkEntry x + uptoBulkEntries r
def uptoBulkEntry {H : Type} : Lit × DataW H → Nat
  | (.string bytes, d) => bytes.length + uptoBulk d + 1
  | (_, d) => uptoBulk d + 1
 end
def uptoSmall : (H : Type) → List (DataW H) → Bool := fun _ ds => decide (uptoBulkAll ds ≤ 1048576)
def OpenSpec.upto (s : _root_.Go.ChangeSpec) : _root_.Go.OpenSpec := { _root_.Go.OpenSpec.ofChange s with cond := some uptoSmall }

/-- 'flashcachelaw21.SlotsChoose', WHERE WHAT IT READS IS OF BULK AT MOST 1048576: true; the input reads as it did. -/
def slotsChooseUptoRow : OpenClaim := { program := "ytkafffoaaklhiaa", sum := "f177a153c896e2628d8035ff70e05959c243fb491f1573789186f9922a45217a", func := "flashcache/flashcachelaw21.SlotsChoose", spec := "slotsChoose", unfollowed := true, recurses := true, apart := false, narrowed := true }
def SlotsChooseUptoSaid : Prop := slotsChooseUptoRow.holds Try.pinned (OpenSpec.upto slotsChooseSpec)

/-- 'flashcachelaw21.SlotsGrow', WHERE WHAT IT READS IS OF BULK AT MOST 1048576: true; the input reads as it did. -/
def slotsGrowUptoRow : OpenClaim := { program := "ytkafffoaaklhiaa", sum := "f177a153c896e2628d8035ff70e05959c243fb491f1573789186f9922a45217a", func := "flashcache/flashcachelaw21.SlotsGrow", spec := "slotsGrow", unfollowed := true, recurses := true, apart := false, narrowed := true }
def SlotsGrowUptoSaid : Prop := slotsGrowUptoRow.holds Try.pinned (OpenSpec.upto slotsGrowSpec)

/-- 'flashcachelaw21.SlotsShrink', WHERE WHAT IT READS IS OF BULK AT MOST 1048576: true; the input reads as it did. -/
def slotsShrinkUptoRow : OpenClaim := { program := "ytkafffoaaklhiaa", sum := "f177a153c896e2628d8035ff70e05959c243fb491f1573789186f9922a45217a", func := "flashcache/flashcachelaw21.SlotsShrink", spec := "slotsShrink", unfollowed := true, recurses := true, apart := false, narrowed := true }
def SlotsShrinkUptoSaid : Prop := slotsShrinkUptoRow.holds Try.pinned (OpenSpec.upto slotsShrinkSpec)

/-- 'flashcachelaw21.SlotsEnd', WHERE WHAT IT READS IS OF BULK AT MOST 1048576: true; the input reads as it did. -/
def slotsEndUptoRow : OpenClaim := { program := "ytkafffoaaklhiaa", sum := "f177a153c896e2628d8035ff70e05959c243fb491f1573789186f9922a45217a", func := "flashcache/flashcachelaw21.SlotsEnd", spec := "slotsEnd", unfollowed := true, recurses := true, apart := false, narrowed := true }
def SlotsEndUptoSaid : Prop := slotsEndUptoRow.holds Try.pinned (OpenSpec.upto slotsEndSpec)

/-- 'flashcachelaw21.SlotsOrder', WHERE WHAT IT READS IS OF BULK AT MOST 1048576: true; the input reads as it did. -/
def slotsOrderUptoRow : OpenClaim := { program := "ytkafffoaaklhiaa", sum := "f177a153c896e2628d8035ff70e05959c243fb491f1573789186f9922a45217a", func := "flashcache/flashcachelaw21.SlotsOrder", spec := "slotsOrder", unfollowed := true, recurses := true, apart := false, narrowed := true }
def SlotsOrderUptoSaid : Prop := slotsOrderUptoRow.holds Try.pinned (OpenSpec.upto slotsOrderSpec)

end Rows
end Go.Proofs.Ytkafffoaaklhiaa
