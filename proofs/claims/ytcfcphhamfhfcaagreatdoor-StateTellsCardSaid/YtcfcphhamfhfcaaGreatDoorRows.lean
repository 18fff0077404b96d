/-
  NARROWER THAN 'FOR EVERY INPUT', by the rows' own cells (each row's printed sentence says how): StateTells: loops, laid · StateSets: loops, laid · StateKeeps: loops, laid · StateReads: loops, laid · StateOrder: loops, laid · StateBytes: loops, laid · StateNames: laid.
  DERIVED. THE GIVEN ROWS OF THIS SEAT. 7 by the template 'for every input the law returns true; each argument reads behind the call as it read before'; 0 by the template 'total and deterministic' (their statements: YtcfcphhamfhfcaaGreatDoorTotals.lean).
  GIVEN WITH THE SEED: the statements are not yours to turn. If you find one false, say at which input.
  Laid BY PROGRAM, IN A SANDBOX (cutbox-rows.mjs): the forced cells as the released guide's own fill.sh prints them over the translation 2a6bd18afebe3a24… (all of the seat's roots in one cut). By AI agents, Wed Nov 11 2026. No macro, syntax, notation, axiom, sorry.
-/
import Derived.Test.YtcfcphhamfhfcaaGreatDoorChecked
import GoSem.Claim
import GoSem.ClaimJoined
import GoSem.ClaimMapViews
import Derived.JoinedTies
import Derived.KernelRfl
namespace Go.Proofs.YtcfcphhamfhfcaaGreatDoor
/- THE CELL 'sum', in the pinned program and in every row, IS THE sha256 OF THE DUMP (.gsa) THAT YtcfcphhamfhfcaaGreatDoorProg.lean LOADS. Nothing in Lean hashes anything: it is a label: what it is worth is what the hold of that sum in a sandbox is worth. -/
noncomputable def Tryz.pinned : Pinned := { name := "ytcfcphhamfhfcaagreatdoor", sum := "2a6bd18afebe3a2426589bdda5a977af5de74ca6af398873ed5f656300bcabc9", checked := Tryz.checked }
namespace Rows
def none {H : Type} : Left H := { results := [], args := [] }

/- WHAT THE LISTED PACKAGE-LEVEL VARIABLES READ AS WHEN THE CALL BEGINS. Each datum BY PROGRAM (the guide's laid-datum.mjs) off the statement by which the dump's own 'gosem.cut.vars' lays the variable. In a bare row this is a premise. The card (YtcfcphhamfhfcaaGreatDoorCards.lean) ties it to the program's text. -/
def laid_retarget_term_shapes {H : Type} : DataW H := .agg [.agg [.lit (.string []), .lit (.int .i64 0), .lit (.int .i64 0)], .agg [.lit (.string []), .lit (.int .i64 0), .lit (.int .i64 0)], .agg [.lit (.string []), .lit (.int .i64 0), .lit (.int .i64 0)], .agg [.lit (.string [110, 111, 116]), .lit (.int .i64 1), .lit (.int .i64 1)], .agg [.lit (.string [110, 101, 103]), .lit (.int .i64 1), .lit (.int .i64 1)], .agg [.lit (.string [97, 100, 100]), .lit (.int .i64 2), .lit (.int .i64 1)], .agg [.lit (.string [115, 117, 98]), .lit (.int .i64 2), .lit (.int .i64 1)], .agg [.lit (.string [109, 117, 108]), .lit (.int .i64 2), .lit (.int .i64 1)], .agg [.lit (.string [97, 110, 100]), .lit (.int .i64 2), .lit (.int .i64 1)], .agg [.lit (.string [111, 114]), .lit (.int .i64 2), .lit (.int .i64 1)], .agg [.lit (.string [120, 111, 114]), .lit (.int .i64 2), .lit (.int .i64 1)], .agg [.lit (.string [115, 104, 108]), .lit (.int .i64 2), .lit (.int .i64 1)], .agg [.lit (.string [115, 104, 114]), .lit (.int .i64 2), .lit (.int .i64 1)], .agg [.lit (.string [115, 97, 114]), .lit (.int .i64 2), .lit (.int .i64 1)], .agg [.lit (.string [117, 100, 105, 118]), .lit (.int .i64 2), .lit (.int .i64 1)], .agg [.lit (.string [117, 114, 101, 109]), .lit (.int .i64 2), .lit (.int .i64 1)], .agg [.lit (.string [101, 113]), .lit (.int .i64 2), .lit (.int .i64 2)], .agg [.lit (.string [117, 108, 116]), .lit (.int .i64 2), .lit (.int .i64 2)], .agg [.lit (.string [115, 108, 116]), .lit (.int .i64 2), .lit (.int .i64 2)], .agg [.lit (.string [105, 116, 101]), .lit (.int .i64 3), .lit (.int .i64 3)], .agg [.lit (.string [99, 111, 110, 99, 97, 116]), .lit (.int .i64 2), .lit (.int .i64 4)], .agg [.lit (.string [101, 120, 116, 114, 97, 99, 116]), .lit (.int .i64 1), .lit (.int .i64 5)], .agg [.lit (.string [122, 101, 120, 116]), .lit (.int .i64 1), .lit (.int .i64 6)], .agg [.lit (.string [115, 101, 120, 116]), .lit (.int .i64 1), .lit (.int .i64 6)], .agg [.lit (.string [108, 111, 97, 100]), .lit (.int .i64 1), .lit (.int .i64 7)]]

/-- 'retargetlaw14.StateTells': WHATEVER THE INPUT: true; the input reads as it did. -/
def stateTellsSpec : ChangeSpec := { name := "stateTells", fn := fun _ => fun
  | [d1, d2, d3, d4, d5, d6, d7] => { results := [.lit (.bool true)], args := [d1, d2, d3, d4, d5, d6, d7] }
  | _ => none }
def stateTellsRow : OpenClaim := { program := "ytcfcphhamfhfcaagreatdoor", sum := "2a6bd18afebe3a2426589bdda5a977af5de74ca6af398873ed5f656300bcabc9", func := "retarget/retargetlaw14.StateTells", spec := "stateTells", unfollowed := true, recurses := true, named := ["retarget/term.shapes"], loops := true, apart := false, laid := [("retarget/term.shapes", laid_retarget_term_shapes)] }
def StateTellsSaid : Prop := stateTellsRow.holds Tryz.pinned (OpenSpec.ofChange stateTellsSpec)

/-- ITS FALSE NEIGHBOUR: 'it returns false'. Refute it at one input. -/
def stateTellsWrong : ChangeSpec := { name := "stateTells", fn := fun _ => fun
  | [d1, d2, d3, d4, d5, d6, d7] => { results := [.lit (.bool false)], args := [d1, d2, d3, d4, d5, d6, d7] }
  | _ => none }
def StateTellsWrongFalsely : Prop := stateTellsRow.holds Tryz.pinned (OpenSpec.ofChange stateTellsWrong)

/-- 'retargetlaw14.StateSets': WHATEVER THE INPUT: true; the input reads as it did. -/
def stateSetsSpec : ChangeSpec := { name := "stateSets", fn := fun _ => fun
  | [d1, d2, d3, d4, d5, d6, d7] => { results := [.lit (.bool true)], args := [d1, d2, d3, d4, d5, d6, d7] }
  | _ => none }
def stateSetsRow : OpenClaim := { program := "ytcfcphhamfhfcaagreatdoor", sum := "2a6bd18afebe3a2426589bdda5a977af5de74ca6af398873ed5f656300bcabc9", func := "retarget/retargetlaw14.StateSets", spec := "stateSets", unfollowed := true, recurses := true, named := ["retarget/term.shapes"], loops := true, apart := false, laid := [("retarget/term.shapes", laid_retarget_term_shapes)] }
def StateSetsSaid : Prop := stateSetsRow.holds Tryz.pinned (OpenSpec.ofChange stateSetsSpec)

/-- ITS FALSE NEIGHBOUR: 'it returns false'. Refute it at one input. -/
def stateSetsWrong : ChangeSpec := { name := "stateSets", fn := fun _ => fun
  | [d1, d2, d3, d4, d5, d6, d7] => { results := [.lit (.bool false)], args := [d1, d2, d3, d4, d5, d6, d7] }
  | _ => none }
def StateSetsWrongFalsely : Prop := stateSetsRow.holds Tryz.pinned (OpenSpec.ofChange stateSetsWrong)

/-- 'retargetlaw14.StateKeeps': WHATEVER THE INPUT: true; the input reads as it did. -/
def stateKeepsSpec : ChangeSpec := { name := "stateKeeps", fn := fun _ => fun
  | [d1, d2, d3, d4, d5] => { results := [.lit (.bool true)], args := [d1, d2, d3, d4, d5] }
  | _ => none }
def stateKeepsRow : OpenClaim := { program := "ytcfcphhamfhfcaagreatdoor", sum := "2a6bd18afebe3a2426589bdda5a977af5de74ca6af398873ed5f656300bcabc9", func := "retarget/retargetlaw14.StateKeeps", spec := "stateKeeps", unfollowed := true, recurses := true, named := ["retarget/term.shapes"], loops := true, apart := false, laid := [("retarget/term.shapes", laid_retarget_term_shapes)] }
def StateKeepsSaid : Prop := stateKeepsRow.holds Tryz.pinned (OpenSpec.ofChange stateKeepsSpec)

/-- ITS FALSE NEIGHBOUR: 'it returns false'. Refute it at one input. -/
def stateKeepsWrong : ChangeSpec := { name := "stateKeeps", fn := fun _ => fun
  | [d1, d2, d3, d4, d5] => { results := [.lit (.bool false)], args := [d1, d2, d3, d4, d5] }
  | _ => none }
def StateKeepsWrongFalsely : Prop := stateKeepsRow.holds Tryz.pinned (OpenSpec.ofChange stateKeepsWrong)

/-- 'retargetlaw14.StateReads': WHATEVER THE INPUT: true; the input reads as it did. -/
def stateReadsSpec : ChangeSpec := { name := "stateReads", fn := fun _ => fun
  | [d1, d2, d3, d4, d5, d6] => { results := [.lit (.bool true)], args := [d1, d2, d3, d4, d5, d6] }
  | _ => none }
def stateReadsRow : OpenClaim := { program := "ytcfcphhamfhfcaagreatdoor", sum := "2a6bd18afebe3a2426589bdda5a977af5de74ca6af398873ed5f656300bcabc9", func := "retarget/retargetlaw14.StateReads", spec := "stateReads", unfollowed := true, recurses := true, named := ["retarget/term.shapes"], loops := true, apart := false, laid := [("retarget/term.shapes", laid_retarget_term_shapes)] }
def StateReadsSaid : Prop := stateReadsRow.holds Tryz.pinned (OpenSpec.ofChange stateReadsSpec)

/-- ITS FALSE NEIGHBOUR: 'it returns false'. Refute it at one input. -/
def stateReadsWrong : ChangeSpec := { name := "stateReads", fn := fun _ => fun
  | [d1, d2, d3, d4, d5, d6] => { results := [.lit (.bool false)], args := [d1, d2, d3, d4, d5, d6] }
  | _ => none }
def StateReadsWrongFalsely : Prop := stateReadsRow.holds Tryz.pinned (OpenSpec.ofChange stateReadsWrong)

/-- 'retargetlaw14.StateOrder': WHATEVER THE INPUT: true; the input reads as it did. -/
def stateOrderSpec : ChangeSpec := { name := "stateOrder", fn := fun _ => fun
  | [d1, d2, d3, d4, d5, d6, d7, d8, d9, d10] => { results := [.lit (.bool true)], args := [d1, d2, d3, d4, d5, d6, d7, d8, d9, d10] }
  | _ => none }
def stateOrderRow : OpenClaim := { program := "ytcfcphhamfhfcaagreatdoor", sum := "2a6bd18afebe3a2426589bdda5a977af5de74ca6af398873ed5f656300bcabc9", func := "retarget/retargetlaw14.StateOrder", spec := "stateOrder", unfollowed := true, recurses := true, named := ["retarget/term.shapes"], loops := true, apart := false, laid := [("retarget/term.shapes", laid_retarget_term_shapes)] }
def StateOrderSaid : Prop := stateOrderRow.holds Tryz.pinned (OpenSpec.ofChange stateOrderSpec)

/-- ITS FALSE NEIGHBOUR: 'it returns false'. Refute it at one input. -/
def stateOrderWrong : ChangeSpec := { name := "stateOrder", fn := fun _ => fun
  | [d1, d2, d3, d4, d5, d6, d7, d8, d9, d10] => { results := [.lit (.bool false)], args := [d1, d2, d3, d4, d5, d6, d7, d8, d9, d10] }
  | _ => none }
def StateOrderWrongFalsely : Prop := stateOrderRow.holds Tryz.pinned (OpenSpec.ofChange stateOrderWrong)

/-- 'retargetlaw14.StateBytes': WHATEVER THE INPUT: true; the input reads as it did. -/
def stateBytesSpec : ChangeSpec := { name := "stateBytes", fn := fun _ => fun
  | [d1, d2, d3, d4, d5, d6] => { results := [.lit (.bool true)], args := [d1, d2, d3, d4, d5, d6] }
  | _ => none }
def stateBytesRow : OpenClaim := { program := "ytcfcphhamfhfcaagreatdoor", sum := "2a6bd18afebe3a2426589bdda5a977af5de74ca6af398873ed5f656300bcabc9", func := "retarget/retargetlaw14.StateBytes", spec := "stateBytes", unfollowed := true, recurses := true, named := ["retarget/term.shapes"], loops := true, apart := false, laid := [("retarget/term.shapes", laid_retarget_term_shapes)] }
def StateBytesSaid : Prop := stateBytesRow.holds Tryz.pinned (OpenSpec.ofChange stateBytesSpec)

/-- ITS FALSE NEIGHBOUR: 'it returns false'. Refute it at one input. -/
def stateBytesWrong : ChangeSpec := { name := "stateBytes", fn := fun _ => fun
  | [d1, d2, d3, d4, d5, d6] => { results := [.lit (.bool false)], args := [d1, d2, d3, d4, d5, d6] }
  | _ => none }
def StateBytesWrongFalsely : Prop := stateBytesRow.holds Tryz.pinned (OpenSpec.ofChange stateBytesWrong)

/-- 'retargetlaw14.StateNames': WHATEVER THE INPUT: true; the input reads as it did. -/
def stateNamesSpec : ChangeSpec := { name := "stateNames", fn := fun _ => fun
  | [] => { results := [.lit (.bool true)], args := [] }
  | _ => none }
def stateNamesRow : OpenClaim := { program := "ytcfcphhamfhfcaagreatdoor", sum := "2a6bd18afebe3a2426589bdda5a977af5de74ca6af398873ed5f656300bcabc9", func := "retarget/retargetlaw14.StateNames", spec := "stateNames", unfollowed := true, recurses := true, named := ["retarget/term.shapes"], apart := false, laid := [("retarget/term.shapes", laid_retarget_term_shapes)] }
def StateNamesSaid : Prop := stateNamesRow.holds Tryz.pinned (OpenSpec.ofChange stateNamesSpec)

/-- ITS FALSE NEIGHBOUR: 'it returns false'. Refute it at one input. -/
def stateNamesWrong : ChangeSpec := { name := "stateNames", fn := fun _ => fun
  | [] => { results := [.lit (.bool false)], args := [] }
  | _ => none }
def StateNamesWrongFalsely : Prop := stateNamesRow.holds Tryz.pinned (OpenSpec.ofChange stateNamesWrong)

/- THE SECOND FORM. 'bulk': how many values and letters a reading holds, each counted each time it is reached (what is shared counts as often as it is met; a slice's spare places count too). A statement '..UptoSaid' is the law's where the arguments, and the package variables that the reading takes, are together of bulk at most 1048576: NARROWER than '..Said'. Prove '..Said' where nothing that the law and all that it calls make is longer than what came in: it says more and counts as full. Else prove '..UptoSaid'. A law counts once. -/
mutual
def uptoBulk {H : Type} : DataW H → Nat
  | .lit (.string bytes) => bytes.length + 1
  | .lit _ => 1
  | .nil => 1
  | .ptr d => uptoBulk d + 1
  | .slice elems spare => uptoBulkAll elems + uptoBulkAll spare + 1
  | .agg parts => uptoBulkAll parts + 1
  | .iface _ d => uptoBulk d + 1
  | .map entries => uptoBulkEntries entries + 1
  | .held _ => 1
def uptoBulkAll {H : Type} : List (DataW H) → Nat
  | [] => 0
  | d :: r => uptoBulk d + uptoBulkAll r
def uptoBulkEntries {H : Type} : List (Lit × DataW H) → Nat
  | [] => 0
  | x :: r => uptoBulkEntry x + uptoBulkEntries r
def uptoBulkEntry {H : Type} : Lit × DataW H → Nat
  | (.string bytes, d) => bytes.length + uptoBulk d + 1
  | (_, d) => uptoBulk d + 1
 end
def uptoSmall : (H : Type) → List (DataW H) → Bool := fun _ ds => decide (uptoBulkAll ds ≤ 1048576)
def OpenSpec.upto (s : _root_.Go.ChangeSpec) : _root_.Go.OpenSpec := { _root_.Go.OpenSpec.ofChange s with cond := some uptoSmall }

/-- 'retargetlaw14.StateTells', WHERE WHAT IT READS IS OF BULK AT MOST 1048576: true; the input reads as it did. -/
def stateTellsUptoRow : OpenClaim := { program := "ytcfcphhamfhfcaagreatdoor", sum := "2a6bd18afebe3a2426589bdda5a977af5de74ca6af398873ed5f656300bcabc9", func := "retarget/retargetlaw14.StateTells", spec := "stateTells", unfollowed := true, recurses := true, named := ["retarget/term.shapes"], loops := true, apart := false, laid := [("retarget/term.shapes", laid_retarget_term_shapes)], narrowed := true }
def StateTellsUptoSaid : Prop := stateTellsUptoRow.holds Tryz.pinned (OpenSpec.upto stateTellsSpec)

/-- 'retargetlaw14.StateSets', WHERE WHAT IT READS IS OF BULK AT MOST 1048576: true; the input reads as it did. -/
def stateSetsUptoRow : OpenClaim := { program := "ytcfcphhamfhfcaagreatdoor", sum := "2a6bd18afebe3a2426589bdda5a977af5de74ca6af398873ed5f656300bcabc9", func := "retarget/retargetlaw14.StateSets", spec := "stateSets", unfollowed := true, recurses := true, named := ["retarget/term.shapes"], loops := true, apart := false, laid := [("retarget/term.shapes", laid_retarget_term_shapes)], narrowed := true }
def StateSetsUptoSaid : Prop := stateSetsUptoRow.holds Tryz.pinned (OpenSpec.upto stateSetsSpec)

/-- 'retargetlaw14.StateKeeps', WHERE WHAT IT READS IS OF BULK AT MOST 1048576: true; the input reads as it did. -/
def stateKeepsUptoRow : OpenClaim := { program := "ytcfcphhamfhfcaagreatdoor", sum := "2a6bd18afebe3a2426589bdda5a977af5de74ca6af398873ed5f656300bcabc9", func := "retarget/retargetlaw14.StateKeeps", spec := "stateKeeps", unfollowed := true, recurses := true, named := ["retarget/term.shapes"], loops := true, apart := false, laid := [("retarget/term.shapes", laid_retarget_term_shapes)], narrowed := true }
def StateKeepsUptoSaid : Prop := stateKeepsUptoRow.holds Tryz.pinned (OpenSpec.upto stateKeepsSpec)

/-- 'retargetlaw14.StateReads', WHERE WHAT IT READS IS OF BULK AT MOST 1048576: true; the input reads as it did. -/
def stateReadsUptoRow : OpenClaim := { program := "ytcfcphhamfhfcaagreatdoor", sum := "2a6bd18afebe3a2426589bdda5a977af5de74ca6af398873ed5f656300bcabc9", func := "retarget/retargetlaw14.StateReads", spec := "stateReads", unfollowed := true, recurses := true, named := ["retarget/term.shapes"], loops := true, apart := false, laid := [("retarget/term.shapes", laid_retarget_term_shapes)], narrowed := true }
def StateReadsUptoSaid : Prop := stateReadsUptoRow.holds Tryz.pinned (OpenSpec.upto stateReadsSpec)

/-- 'retargetlaw14.StateOrder', WHERE WHAT IT READS IS OF BULK AT MOST 1048576: true; the input reads as it did. -/
def stateOrderUptoRow : OpenClaim := { program := "ytcfcphhamfhfcaagreatdoor", sum := "2a6bd18afebe3a2426589bdda5a977af5de74ca6af398873ed5f656300bcabc9", func := "retarget/retargetlaw14.StateOrder", spec := "stateOrder", unfollowed := true, recurses := true, named := ["retarget/term.shapes"], loops := true, apart := false, laid := [("retarget/term.shapes", laid_retarget_term_shapes)], narrowed := true }
def StateOrderUptoSaid : Prop := stateOrderUptoRow.holds Tryz.pinned (OpenSpec.upto stateOrderSpec)

/-- 'retargetlaw14.StateBytes', WHERE WHAT IT READS IS OF BULK AT MOST 1048576: true; the input reads as it did. -/
def stateBytesUptoRow : OpenClaim := { program := "ytcfcphhamfhfcaagreatdoor", sum := "2a6bd18afebe3a2426589bdda5a977af5de74ca6af398873ed5f656300bcabc9", func := "retarget/retargetlaw14.StateBytes", spec := "stateBytes", unfollowed := true, recurses := true, named := ["retarget/term.shapes"], loops := true, apart := false, laid := [("retarget/term.shapes", laid_retarget_term_shapes)], narrowed := true }
def StateBytesUptoSaid : Prop := stateBytesUptoRow.holds Tryz.pinned (OpenSpec.upto stateBytesSpec)

/-- 'retargetlaw14.StateNames', WHERE WHAT IT READS IS OF BULK AT MOST 1048576: true; the input reads as it did. -/
def stateNamesUptoRow : OpenClaim := { program := "ytcfcphhamfhfcaagreatdoor", sum := "2a6bd18afebe3a2426589bdda5a977af5de74ca6af398873ed5f656300bcabc9", func := "retarget/retargetlaw14.StateNames", spec := "stateNames", unfollowed := true, recurses := true, named := ["retarget/term.shapes"], apart := false, laid := [("retarget/term.shapes", laid_retarget_term_shapes)], narrowed := true }
def StateNamesUptoSaid : Prop := stateNamesUptoRow.holds Tryz.pinned (OpenSpec.upto stateNamesSpec)

end Rows
end Go.Proofs.YtcfcphhamfhfcaaGreatDoor
