/-
  NARROWER THAN 'FOR EVERY INPUT', by the rows' own cells (each row's printed sentence says how): TopGrow: laid · TopUpgraded: laid · TopExpired: laid · TopProgress: laid · TopSeqs: laid.
  DERIVED. THE GIVEN ROWS OF THIS SEAT. 5 by the template 'for every input the law returns true; each argument reads behind the call as it read before'; 0 by the template 'total and deterministic' (their statements: YtbikkioipamlmaaGreatDoorTotals.lean).
  GIVEN WITH THE SEED: the statements are not yours to turn. If you find one false, say at which input.
  Laid BY PROGRAM, IN A SANDBOX (cutbox-rows.mjs): the forced cells as the released guide's own fill.sh prints them over the translation b91c89a4b526c2ff… (all of the seat's roots in one cut). By AI agents, Wed Nov 11 2026. No macro, syntax, notation, axiom, sorry.
-/
import Derived.Test.YtbikkioipamlmaaGreatDoorChecked
import GoSem.Claim
import GoSem.ClaimJoined
import GoSem.ClaimMapViews
import Derived.JoinedTies
import Derived.KernelRfl
namespace Go.Proofs.YtbikkioipamlmaaGreatDoor
/- THE CELL 'sum', in the pinned program and in every row, IS THE sha256 OF THE DUMP (.gsa) THAT YtbikkioipamlmaaGreatDoorProg.lean LOADS. Nothing in Lean hashes anything: it is a label: what it is worth is what the hold of that sum in a sandbox is worth. -/
noncomputable def Tryz.pinned : Pinned := { name := "ytbikkioipamlmaagreatdoor", sum := "b91c89a4b526c2ff4be98f123ef4ddc51331ab205791cea346331665c054336c", checked := Tryz.checked }
namespace Rows
def none {H : Type} : Left H := { results := [], args := [] }

/- WHAT THE LISTED PACKAGE-LEVEL VARIABLES READ AS WHEN THE CALL BEGINS. Each datum BY PROGRAM (the guide's laid-datum.mjs) off the statement by which the dump's own 'gosem.cut.vars' lays the variable. In a bare row this is a premise. The card (YtbikkioipamlmaaGreatDoorCards.lean) ties it to the program's text. -/
def laid_flashcache_crc_table {H : Type} : DataW H := .agg [.lit (.int .u32 0), .lit (.int .u32 274646895), .lit (.int .u32 549293790), .lit (.int .u32 820201905), .lit (.int .u32 1098587580), .lit (.int .u32 1361435347), .lit (.int .u32 1640403810), .lit (.int .u32 1905808397), .lit (.int .u32 2197175160), .lit (.int .u32 2460548119), .lit (.int .u32 2722870694), .lit (.int .u32 2987750089), .lit (.int .u32 3280807620), .lit (.int .u32 3553878443), .lit (.int .u32 3811616794), .lit (.int .u32 4084100981)]

/-- 'flashcachetop.TopGrow': WHATEVER THE INPUT: true; the input reads as it did. -/
def topGrowSpec : ChangeSpec := { name := "topGrow", fn := fun _ => fun
  | [d1, d2, d3] => { results := [.lit (.bool true)], args := [d1, d2, d3] }
  | _ => none }
def topGrowRow : OpenClaim := { program := "ytbikkioipamlmaagreatdoor", sum := "b91c89a4b526c2ff4be98f123ef4ddc51331ab205791cea346331665c054336c", func := "flashcache/flashcachetop.TopGrow", spec := "topGrow", inPlace := ["sync/atomic.AddInt64", "sync/atomic.LoadInt64"], unfollowed := true, recurses := true, named := ["flashcache/crc.table"], apart := false, laid := [("flashcache/crc.table", laid_flashcache_crc_table)] }
def TopGrowSaid : Prop := topGrowRow.holds Tryz.pinned (OpenSpec.ofChange topGrowSpec)

/-- ITS FALSE NEIGHBOUR: 'it returns false'. Refute it at one input. -/
def topGrowWrong : ChangeSpec := { name := "topGrow", fn := fun _ => fun
  | [d1, d2, d3] => { results := [.lit (.bool false)], args := [d1, d2, d3] }
  | _ => none }
def TopGrowWrongFalsely : Prop := topGrowRow.holds Tryz.pinned (OpenSpec.ofChange topGrowWrong)

/-- 'flashcachetop.TopUpgraded': WHATEVER THE INPUT: true; the input reads as it did. -/
def topUpgradedSpec : ChangeSpec := { name := "topUpgraded", fn := fun _ => fun
  | [d] => { results := [.lit (.bool true)], args := [d] }
  | _ => none }
def topUpgradedRow : OpenClaim := { program := "ytbikkioipamlmaagreatdoor", sum := "b91c89a4b526c2ff4be98f123ef4ddc51331ab205791cea346331665c054336c", func := "flashcache/flashcachetop.TopUpgraded", spec := "topUpgraded", inPlace := ["sync/atomic.AddInt64"], unfollowed := true, recurses := true, named := ["flashcache/crc.table"], apart := false, laid := [("flashcache/crc.table", laid_flashcache_crc_table)] }
def TopUpgradedSaid : Prop := topUpgradedRow.holds Tryz.pinned (OpenSpec.ofChange topUpgradedSpec)

/-- ITS FALSE NEIGHBOUR: 'it returns false'. Refute it at one input. -/
def topUpgradedWrong : ChangeSpec := { name := "topUpgraded", fn := fun _ => fun
  | [d] => { results := [.lit (.bool false)], args := [d] }
  | _ => none }
def TopUpgradedWrongFalsely : Prop := topUpgradedRow.holds Tryz.pinned (OpenSpec.ofChange topUpgradedWrong)

/-- 'flashcachetop.TopExpired': WHATEVER THE INPUT: true; the input reads as it did. -/
def topExpiredSpec : ChangeSpec := { name := "topExpired", fn := fun _ => fun
  | [d] => { results := [.lit (.bool true)], args := [d] }
  | _ => none }
def topExpiredRow : OpenClaim := { program := "ytbikkioipamlmaagreatdoor", sum := "b91c89a4b526c2ff4be98f123ef4ddc51331ab205791cea346331665c054336c", func := "flashcache/flashcachetop.TopExpired", spec := "topExpired", inPlace := ["sync/atomic.AddInt64"], unfollowed := true, recurses := true, named := ["flashcache/crc.table"], apart := false, laid := [("flashcache/crc.table", laid_flashcache_crc_table)] }
def TopExpiredSaid : Prop := topExpiredRow.holds Tryz.pinned (OpenSpec.ofChange topExpiredSpec)

/-- ITS FALSE NEIGHBOUR: 'it returns false'. Refute it at one input. -/
def topExpiredWrong : ChangeSpec := { name := "topExpired", fn := fun _ => fun
  | [d] => { results := [.lit (.bool false)], args := [d] }
  | _ => none }
def TopExpiredWrongFalsely : Prop := topExpiredRow.holds Tryz.pinned (OpenSpec.ofChange topExpiredWrong)

/-- 'flashcachetop.TopProgress': WHATEVER THE INPUT: true; the input reads as it did. -/
def topProgressSpec : ChangeSpec := { name := "topProgress", fn := fun _ => fun
  | [d1, d2] => { results := [.lit (.bool true)], args := [d1, d2] }
  | _ => none }
def topProgressRow : OpenClaim := { program := "ytbikkioipamlmaagreatdoor", sum := "b91c89a4b526c2ff4be98f123ef4ddc51331ab205791cea346331665c054336c", func := "flashcache/flashcachetop.TopProgress", spec := "topProgress", inPlace := ["sync/atomic.AddInt64"], unfollowed := true, recurses := true, named := ["flashcache/crc.table"], apart := false, laid := [("flashcache/crc.table", laid_flashcache_crc_table)] }
def TopProgressSaid : Prop := topProgressRow.holds Tryz.pinned (OpenSpec.ofChange topProgressSpec)

/-- ITS FALSE NEIGHBOUR: 'it returns false'. Refute it at one input. -/
def topProgressWrong : ChangeSpec := { name := "topProgress", fn := fun _ => fun
  | [d1, d2] => { results := [.lit (.bool false)], args := [d1, d2] }
  | _ => none }
def TopProgressWrongFalsely : Prop := topProgressRow.holds Tryz.pinned (OpenSpec.ofChange topProgressWrong)

/-- 'flashcachetop.TopSeqs': WHATEVER THE INPUT: true; the input reads as it did. -/
def topSeqsSpec : ChangeSpec := { name := "topSeqs", fn := fun _ => fun
  | [d] => { results := [.lit (.bool true)], args := [d] }
  | _ => none }
def topSeqsRow : OpenClaim := { program := "ytbikkioipamlmaagreatdoor", sum := "b91c89a4b526c2ff4be98f123ef4ddc51331ab205791cea346331665c054336c", func := "flashcache/flashcachetop.TopSeqs", spec := "topSeqs", inPlace := ["sync/atomic.AddInt64"], unfollowed := true, recurses := true, named := ["flashcache/crc.table"], apart := false, laid := [("flashcache/crc.table", laid_flashcache_crc_table)] }
def TopSeqsSaid : Prop := topSeqsRow.holds Tryz.pinned (OpenSpec.ofChange topSeqsSpec)

/-- ITS FALSE NEIGHBOUR: 'it returns false'. Refute it at one input. -/
def topSeqsWrong : ChangeSpec := { name := "topSeqs", fn := fun _ => fun
  | [d] => { results := [.lit (.bool false)], args := [d] }
  | _ => none }
def TopSeqsWrongFalsely : Prop := topSeqsRow.holds Tryz.pinned (OpenSpec.ofChange topSeqsWrong)

/- THE SECOND FORM. 'bulk': how many values and letters a reading holds, each counted each time it is reached (what is shared counts as often as it is met; a slice's spare places count too). A statement '..UptoSaid' is the law's where the arguments, and the package variables that the reading takes, are together of bulk at most 1048576: NARROWER than '..Said'. Prove '..Said' where nothing that the law and all that it calls make is longer than what came in: it says more and counts as full. Else prove '..UptoSaid'. A law counts once. -/
mutual
def uptoBulk {H : Type} : DataW H → Nat
  | .lit (.string bytes) => bytes.length + 1
  | .lit _ => 1
  | .nil => 1
  | .ptr d => uptoBulk d + 1
  | .slice elems spare => uptoBulkAll elems + uptoBulkAll spare + 1
  | .agg parts => uptoBulkAll parts + 1
  | .iface _ d => uptoBulk d + 1
  | .map entries => uptoBulkEntries entries + 1
  | .held _ => 1
def uptoBulkAll {H : Type} : List (DataW H) → Nat
  | [] => 0
  | d :: r => uptoBulk d + uptoBulkAll r
def uptoBulkEntries {H : Type} : List (Lit × DataW H) → Nat
  | [] => 0
  | x :: r => uptoBulkEntry x + uptoBulkEntries r
def uptoBulkEntry {H : Type} : Lit × DataW H → Nat
  | (.string bytes, d) => bytes.length + uptoBulk d + 1
  | (_, d) => uptoBulk d + 1
 end
def uptoSmall : (H : Type) → List (DataW H) → Bool := fun _ ds => decide (uptoBulkAll ds ≤ 1048576)
def OpenSpec.upto (s : _root_.Go.ChangeSpec) : _root_.Go.OpenSpec := { _root_.Go.OpenSpec.ofChange s with cond := some uptoSmall }

/-- 'flashcachetop.TopGrow', WHERE WHAT IT READS IS OF BULK AT MOST 1048576: true; the input reads as it did. -/
def topGrowUptoRow : OpenClaim := { program := "ytbikkioipamlmaagreatdoor", sum := "b91c89a4b526c2ff4be98f123ef4ddc51331ab205791cea346331665c054336c", func := "flashcache/flashcachetop.TopGrow", spec := "topGrow", inPlace := ["sync/atomic.AddInt64", "sync/atomic.LoadInt64"], unfollowed := true, recurses := true, named := ["flashcache/crc.table"], apart := false, laid := [("flashcache/crc.table", laid_flashcache_crc_table)], narrowed := true }
def TopGrowUptoSaid : Prop := topGrowUptoRow.holds Tryz.pinned (OpenSpec.upto topGrowSpec)

/-- 'flashcachetop.TopUpgraded', WHERE WHAT IT READS IS OF BULK AT MOST 1048576: true; the input reads as it did. -/
def topUpgradedUptoRow : OpenClaim := { program := "ytbikkioipamlmaagreatdoor", sum := "b91c89a4b526c2ff4be98f123ef4ddc51331ab205791cea346331665c054336c", func := "flashcache/flashcachetop.TopUpgraded", spec := "topUpgraded", inPlace := ["sync/atomic.AddInt64"], unfollowed := true, recurses := true, named := ["flashcache/crc.table"], apart := false, laid := [("flashcache/crc.table", laid_flashcache_crc_table)], narrowed := true }
def TopUpgradedUptoSaid : Prop := topUpgradedUptoRow.holds Tryz.pinned (OpenSpec.upto topUpgradedSpec)

/-- 'flashcachetop.TopExpired', WHERE WHAT IT READS IS OF BULK AT MOST 1048576: true; the input reads as it did. -/
def topExpiredUptoRow : OpenClaim := { program := "ytbikkioipamlmaagreatdoor", sum := "b91c89a4b526c2ff4be98f123ef4ddc51331ab205791cea346331665c054336c", func := "flashcache/flashcachetop.TopExpired", spec := "topExpired", inPlace := ["sync/atomic.AddInt64"], unfollowed := true, recurses := true, named := ["flashcache/crc.table"], apart := false, laid := [("flashcache/crc.table", laid_flashcache_crc_table)], narrowed := true }
def TopExpiredUptoSaid : Prop := topExpiredUptoRow.holds Tryz.pinned (OpenSpec.upto topExpiredSpec)

/-- 'flashcachetop.TopProgress', WHERE WHAT IT READS IS OF BULK AT MOST 1048576: true; the input reads as it did. -/
def topProgressUptoRow : OpenClaim := { program := "ytbikkioipamlmaagreatdoor", sum := "b91c89a4b526c2ff4be98f123ef4ddc51331ab205791cea346331665c054336c", func := "flashcache/flashcachetop.TopProgress", spec := "topProgress", inPlace := ["sync/atomic.AddInt64"], unfollowed := true, recurses := true, named := ["flashcache/crc.table"], apart := false, laid := [("flashcache/crc.table", laid_flashcache_crc_table)], narrowed := true }
def TopProgressUptoSaid : Prop := topProgressUptoRow.holds Tryz.pinned (OpenSpec.upto topProgressSpec)

/-- 'flashcachetop.TopSeqs', WHERE WHAT IT READS IS OF BULK AT MOST 1048576: true; the input reads as it did. -/
def topSeqsUptoRow : OpenClaim := { program := "ytbikkioipamlmaagreatdoor", sum := "b91c89a4b526c2ff4be98f123ef4ddc51331ab205791cea346331665c054336c", func := "flashcache/flashcachetop.TopSeqs", spec := "topSeqs", inPlace := ["sync/atomic.AddInt64"], unfollowed := true, recurses := true, named := ["flashcache/crc.table"], apart := false, laid := [("flashcache/crc.table", laid_flashcache_crc_table)], narrowed := true }
def TopSeqsUptoSaid : Prop := topSeqsUptoRow.holds Tryz.pinned (OpenSpec.upto topSeqsSpec)

end Rows
end Go.Proofs.YtbikkioipamlmaaGreatDoor
