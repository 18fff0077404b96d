/-
  No cell of these rows narrows 'for every input' (looked for: loops, veiled, ifaces, maps, wideKeys, modest, calm, conditions, laid).
  DERIVED. THE GIVEN ROWS OF THIS SEAT. 9 by the template 'for every input the law returns true; each argument reads behind the call as it read before'; 0 by the template 'total and deterministic' (their statements: YtlbkcdfllglddaaTotals.lean).
  GIVEN WITH THE SEED: the statements are not yours to turn. If you find one false, say at which input.
  Laid BY PROGRAM, IN A SANDBOX (cutbox-rows.mjs): the forced cells as the released guide's own fill.sh prints them over the translation a39df162514c8480… (all of the seat's roots in one cut). By AI agents, Wed Nov 11 2026. No macro, syntax, notation, axiom, sorry.
-/
import Derived.Test.YtlbkcdfllglddaaChecked
import GoSem.Claim
import GoSem.ClaimJoined
import GoSem.ClaimMapViews
import Derived.JoinedTies
import Derived.KernelRfl
namespace Go.Proofs.Ytlbkcdfllglddaa
/- THE CELL 'sum', in the pinned program and in every row, IS THE sha256 OF THE DUMP (.gsa) THAT YtlbkcdfllglddaaProg.lean LOADS. Nothing in Lean hashes anything: it is a label: what it is worth is what the hold of that sum in a sandbox is worth. -/
noncomputable def Try.pinned : Pinned := { name := "ytlbkcdfllglddaa", sum := "a39df162514c8480190052fcd4179639e1933162d4938df48e028ffe1b58d798", checked := Try.checked }
namespace Rows
def none {H : Type} : Left H := { results := [], args := [] }

/-- 'retargetlaw09.FormatNumbers': WHATEVER THE INPUT: true; the input reads as it did. -/
def formatNumbersSpec : ChangeSpec := { name := "formatNumbers", fn := fun _ => fun
  | [d1, d2, d3, d4, d5] => { results := [.lit (.bool true)], args := [d1, d2, d3, d4, d5] }
  | _ => none }
def formatNumbersRow : OpenClaim := { program := "ytlbkcdfllglddaa", sum := "a39df162514c8480190052fcd4179639e1933162d4938df48e028ffe1b58d798", func := "retarget/retargetlaw09.FormatNumbers", spec := "formatNumbers", apart := false }
def FormatNumbersSaid : Prop := formatNumbersRow.holds Try.pinned (OpenSpec.ofChange formatNumbersSpec)

/-- ITS FALSE NEIGHBOUR: 'it returns false'. Refute it at one input. -/
def formatNumbersWrong : ChangeSpec := { name := "formatNumbers", fn := fun _ => fun
  | [d1, d2, d3, d4, d5] => { results := [.lit (.bool false)], args := [d1, d2, d3, d4, d5] }
  | _ => none }
def FormatNumbersWrongFalsely : Prop := formatNumbersRow.holds Try.pinned (OpenSpec.ofChange formatNumbersWrong)

/-- 'retargetlaw09.FormatFields': WHATEVER THE INPUT: true; the input reads as it did. -/
def formatFieldsSpec : ChangeSpec := { name := "formatFields", fn := fun _ => fun
  | [d1, d2, d3, d4] => { results := [.lit (.bool true)], args := [d1, d2, d3, d4] }
  | _ => none }
def formatFieldsRow : OpenClaim := { program := "ytlbkcdfllglddaa", sum := "a39df162514c8480190052fcd4179639e1933162d4938df48e028ffe1b58d798", func := "retarget/retargetlaw09.FormatFields", spec := "formatFields", unfollowed := true, recurses := true, apart := false }
def FormatFieldsSaid : Prop := formatFieldsRow.holds Try.pinned (OpenSpec.ofChange formatFieldsSpec)

/-- ITS FALSE NEIGHBOUR: 'it returns false'. Refute it at one input. -/
def formatFieldsWrong : ChangeSpec := { name := "formatFields", fn := fun _ => fun
  | [d1, d2, d3, d4] => { results := [.lit (.bool false)], args := [d1, d2, d3, d4] }
  | _ => none }
def FormatFieldsWrongFalsely : Prop := formatFieldsRow.holds Try.pinned (OpenSpec.ofChange formatFieldsWrong)

/-- 'retargetlaw09.FormatPuts': WHATEVER THE INPUT: true; the input reads as it did. -/
def formatPutsSpec : ChangeSpec := { name := "formatPuts", fn := fun _ => fun
  | [d1, d2, d3, d4] => { results := [.lit (.bool true)], args := [d1, d2, d3, d4] }
  | _ => none }
def formatPutsRow : OpenClaim := { program := "ytlbkcdfllglddaa", sum := "a39df162514c8480190052fcd4179639e1933162d4938df48e028ffe1b58d798", func := "retarget/retargetlaw09.FormatPuts", spec := "formatPuts", unfollowed := true, recurses := true, apart := false }
def FormatPutsSaid : Prop := formatPutsRow.holds Try.pinned (OpenSpec.ofChange formatPutsSpec)

/-- ITS FALSE NEIGHBOUR: 'it returns false'. Refute it at one input. -/
def formatPutsWrong : ChangeSpec := { name := "formatPuts", fn := fun _ => fun
  | [d1, d2, d3, d4] => { results := [.lit (.bool false)], args := [d1, d2, d3, d4] }
  | _ => none }
def FormatPutsWrongFalsely : Prop := formatPutsRow.holds Try.pinned (OpenSpec.ofChange formatPutsWrong)

/-- 'retargetlaw09.FormatTwo': WHATEVER THE INPUT: true; the input reads as it did. -/
def formatTwoSpec : ChangeSpec := { name := "formatTwo", fn := fun _ => fun
  | [d1, d2, d3, d4, d5, d6] => { results := [.lit (.bool true)], args := [d1, d2, d3, d4, d5, d6] }
  | _ => none }
def formatTwoRow : OpenClaim := { program := "ytlbkcdfllglddaa", sum := "a39df162514c8480190052fcd4179639e1933162d4938df48e028ffe1b58d798", func := "retarget/retargetlaw09.FormatTwo", spec := "formatTwo", unfollowed := true, recurses := true, apart := false }
def FormatTwoSaid : Prop := formatTwoRow.holds Try.pinned (OpenSpec.ofChange formatTwoSpec)

/-- ITS FALSE NEIGHBOUR: 'it returns false'. Refute it at one input. -/
def formatTwoWrong : ChangeSpec := { name := "formatTwo", fn := fun _ => fun
  | [d1, d2, d3, d4, d5, d6] => { results := [.lit (.bool false)], args := [d1, d2, d3, d4, d5, d6] }
  | _ => none }
def FormatTwoWrongFalsely : Prop := formatTwoRow.holds Try.pinned (OpenSpec.ofChange formatTwoWrong)

/-- 'retargetlaw09.FormatSplits': WHATEVER THE INPUT: true; the input reads as it did. -/
def formatSplitsSpec : ChangeSpec := { name := "formatSplits", fn := fun _ => fun
  | [d1, d2, d3, d4, d5] => { results := [.lit (.bool true)], args := [d1, d2, d3, d4, d5] }
  | _ => none }
def formatSplitsRow : OpenClaim := { program := "ytlbkcdfllglddaa", sum := "a39df162514c8480190052fcd4179639e1933162d4938df48e028ffe1b58d798", func := "retarget/retargetlaw09.FormatSplits", spec := "formatSplits", unfollowed := true, recurses := true, apart := false }
def FormatSplitsSaid : Prop := formatSplitsRow.holds Try.pinned (OpenSpec.ofChange formatSplitsSpec)

/-- ITS FALSE NEIGHBOUR: 'it returns false'. Refute it at one input. -/
def formatSplitsWrong : ChangeSpec := { name := "formatSplits", fn := fun _ => fun
  | [d1, d2, d3, d4, d5] => { results := [.lit (.bool false)], args := [d1, d2, d3, d4, d5] }
  | _ => none }
def FormatSplitsWrongFalsely : Prop := formatSplitsRow.holds Try.pinned (OpenSpec.ofChange formatSplitsWrong)

/-- 'retargetlaw09.FormatOrder': WHATEVER THE INPUT: true; the input reads as it did. -/
def formatOrderSpec : ChangeSpec := { name := "formatOrder", fn := fun _ => fun
  | [d1, d2, d3, d4] => { results := [.lit (.bool true)], args := [d1, d2, d3, d4] }
  | _ => none }
def formatOrderRow : OpenClaim := { program := "ytlbkcdfllglddaa", sum := "a39df162514c8480190052fcd4179639e1933162d4938df48e028ffe1b58d798", func := "retarget/retargetlaw09.FormatOrder", spec := "formatOrder", unfollowed := true, recurses := true, apart := false }
def FormatOrderSaid : Prop := formatOrderRow.holds Try.pinned (OpenSpec.ofChange formatOrderSpec)

/-- ITS FALSE NEIGHBOUR: 'it returns false'. Refute it at one input. -/
def formatOrderWrong : ChangeSpec := { name := "formatOrder", fn := fun _ => fun
  | [d1, d2, d3, d4] => { results := [.lit (.bool false)], args := [d1, d2, d3, d4] }
  | _ => none }
def FormatOrderWrongFalsely : Prop := formatOrderRow.holds Try.pinned (OpenSpec.ofChange formatOrderWrong)

/-- 'retargetlaw09.FormatFits': WHATEVER THE INPUT: true; the input reads as it did. -/
def formatFitsSpec : ChangeSpec := { name := "formatFits", fn := fun _ => fun
  | [d1, d2, d3, d4] => { results := [.lit (.bool true)], args := [d1, d2, d3, d4] }
  | _ => none }
def formatFitsRow : OpenClaim := { program := "ytlbkcdfllglddaa", sum := "a39df162514c8480190052fcd4179639e1933162d4938df48e028ffe1b58d798", func := "retarget/retargetlaw09.FormatFits", spec := "formatFits", unfollowed := true, recurses := true, apart := false }
def FormatFitsSaid : Prop := formatFitsRow.holds Try.pinned (OpenSpec.ofChange formatFitsSpec)

/-- ITS FALSE NEIGHBOUR: 'it returns false'. Refute it at one input. -/
def formatFitsWrong : ChangeSpec := { name := "formatFits", fn := fun _ => fun
  | [d1, d2, d3, d4] => { results := [.lit (.bool false)], args := [d1, d2, d3, d4] }
  | _ => none }
def FormatFitsWrongFalsely : Prop := formatFitsRow.holds Try.pinned (OpenSpec.ofChange formatFitsWrong)

/-- 'retargetlaw09.FormatNames': WHATEVER THE INPUT: true; the input reads as it did. -/
def formatNamesSpec : ChangeSpec := { name := "formatNames", fn := fun _ => fun
  | [] => { results := [.lit (.bool true)], args := [] }
  | _ => none }
def formatNamesRow : OpenClaim := { program := "ytlbkcdfllglddaa", sum := "a39df162514c8480190052fcd4179639e1933162d4938df48e028ffe1b58d798", func := "retarget/retargetlaw09.FormatNames", spec := "formatNames", unfollowed := true, recurses := true, apart := false }
def FormatNamesSaid : Prop := formatNamesRow.holds Try.pinned (OpenSpec.ofChange formatNamesSpec)

/-- ITS FALSE NEIGHBOUR: 'it returns false'. Refute it at one input. -/
def formatNamesWrong : ChangeSpec := { name := "formatNames", fn := fun _ => fun
  | [] => { results := [.lit (.bool false)], args := [] }
  | _ => none }
def FormatNamesWrongFalsely : Prop := formatNamesRow.holds Try.pinned (OpenSpec.ofChange formatNamesWrong)

/-- 'retargetlaw09.FormatBack': WHATEVER THE INPUT: true; the input reads as it did. -/
def formatBackSpec : ChangeSpec := { name := "formatBack", fn := fun _ => fun
  | [d1, d2, d3, d4, d5] => { results := [.lit (.bool true)], args := [d1, d2, d3, d4, d5] }
  | _ => none }
def formatBackRow : OpenClaim := { program := "ytlbkcdfllglddaa", sum := "a39df162514c8480190052fcd4179639e1933162d4938df48e028ffe1b58d798", func := "retarget/retargetlaw09.FormatBack", spec := "formatBack", unfollowed := true, recurses := true, apart := false }
def FormatBackSaid : Prop := formatBackRow.holds Try.pinned (OpenSpec.ofChange formatBackSpec)

/-- ITS FALSE NEIGHBOUR: 'it returns false'. Refute it at one input. -/
def formatBackWrong : ChangeSpec := { name := "formatBack", fn := fun _ => fun
  | [d1, d2, d3, d4, d5] => { results := [.lit (.bool false)], args := [d1, d2, d3, d4, d5] }
  | _ => none }
def FormatBackWrongFalsely : Prop := formatBackRow.holds Try.pinned (OpenSpec.ofChange formatBackWrong)

/- THE SECOND FORM. 'bulk': how many values and letters a reading holds, each counted each time it is reached (what is shared counts as often as it is met; a slice's spare places count too). A statement '..UptoSaid' is the law's where the arguments, and the package variables that the reading takes, are together of bulk at most 1048576: NARROWER than '..Said'. Prove '..Said' where nothing that the law and all that it calls make is longer than what came in: it says more and counts as full. Else prove '..UptoSaid'. A law counts once. -/
mutual
def uptoBulk {H : Type} : DataW H → Nat
  | .lit (.string bytes) => bytes.length + 1
  | .lit _ => 1
  | .nil => 1
  | .ptr d => uptoBulk d + 1
  | .slice elems spare => uptoBulkAll elems + uptoBulkAll spare + 1
  | .agg parts => uptoBulkAll parts + 1
  | .iface _ d => uptoBulk d + 1
  | .map entries => uptoBulkEntries entries + 1
  | .held _ => 1
def uptoBulkAll {H : Type} : List (DataW H) → Nat
  | [] => 0
  | d :: r => uptoBulk d + uptoBulkAll r
def uptoBulkEntries {H : Type} : List (Lit × DataW H) → Nat
  | [] => 0
  | x :: r => uptoBulkEntry x + uptoBulkEntries r
def uptoBulkEntry {H : Type} : Lit × DataW H → Nat
  | (.string bytes, d) => bytes.length + uptoBulk d + 1
  | (_, d) => uptoBulk d + 1
 end
def uptoSmall : (H : Type) → List (DataW H) → Bool := fun _ ds => decide (uptoBulkAll ds ≤ 1048576)
def OpenSpec.upto (s : _root_.Go.ChangeSpec) : _root_.Go.OpenSpec := { _root_.Go.OpenSpec.ofChange s with cond := some uptoSmall }

/-- 'retargetlaw09.FormatNumbers', WHERE WHAT IT READS IS OF BULK AT MOST 1048576: true; the input reads as it did. -/
def formatNumbersUptoRow : OpenClaim := { program := "ytlbkcdfllglddaa", sum := "a39df162514c8480190052fcd4179639e1933162d4938df48e028ffe1b58d798", func := "retarget/retargetlaw09.FormatNumbers", spec := "formatNumbers", apart := false, narrowed := true }
def FormatNumbersUptoSaid : Prop := formatNumbersUptoRow.holds Try.pinned (OpenSpec.upto formatNumbersSpec)

/-- 'retargetlaw09.FormatFields', WHERE WHAT IT READS IS OF BULK AT MOST 1048576: true; the input reads as it did. -/
def formatFieldsUptoRow : OpenClaim := { program := "ytlbkcdfllglddaa", sum := "a39df162514c8480190052fcd4179639e1933162d4938df48e028ffe1b58d798", func := "retarget/retargetlaw09.FormatFields", spec := "formatFields", unfollowed := true, recurses := true, apart := false, narrowed := true }
def FormatFieldsUptoSaid : Prop := formatFieldsUptoRow.holds Try.pinned (OpenSpec.upto formatFieldsSpec)

/-- 'retargetlaw09.FormatPuts', WHERE WHAT IT READS IS OF BULK AT MOST 1048576: true; the input reads as it did. -/
def formatPutsUptoRow : OpenClaim := { program := "ytlbkcdfllglddaa", sum := "a39df162514c8480190052fcd4179639e1933162d4938df48e028ffe1b58d798", func := "retarget/retargetlaw09.FormatPuts", spec := "formatPuts", unfollowed := true, recurses := true, apart := false, narrowed := true }
def FormatPutsUptoSaid : Prop := formatPutsUptoRow.holds Try.pinned (OpenSpec.upto formatPutsSpec)

/-- 'retargetlaw09.FormatTwo', WHERE WHAT IT READS IS OF BULK AT MOST 1048576: true; the input reads as it did. -/
def formatTwoUptoRow : OpenClaim := { program := "ytlbkcdfllglddaa", sum := "a39df162514c8480190052fcd4179639e1933162d4938df48e028ffe1b58d798", func := "retarget/retargetlaw09.FormatTwo", spec := "formatTwo", unfollowed := true, recurses := true, apart := false, narrowed := true }
def FormatTwoUptoSaid : Prop := formatTwoUptoRow.holds Try.pinned (OpenSpec.upto formatTwoSpec)

/-- 'retargetlaw09.FormatSplits', WHERE WHAT IT READS IS OF BULK AT MOST 1048576: true; the input reads as it did. -/
def formatSplitsUptoRow : OpenClaim := { program := "ytlbkcdfllglddaa", sum := "a39df162514c8480190052fcd4179639e1933162d4938df48e028ffe1b58d798", func := "retarget/retargetlaw09.FormatSplits", spec := "formatSplits", unfollowed := true, recurses := true, apart := false, narrowed := true }
def FormatSplitsUptoSaid : Prop := formatSplitsUptoRow.holds Try.pinned (OpenSpec.upto formatSplitsSpec)

/-- 'retargetlaw09.FormatOrder', WHERE WHAT IT READS IS OF BULK AT MOST 1048576: true; the input reads as it did. -/
def formatOrderUptoRow : OpenClaim := { program := "ytlbkcdfllglddaa", sum := "a39df162514c8480190052fcd4179639e1933162d4938df48e028ffe1b58d798", func := "retarget/retargetlaw09.FormatOrder", spec := "formatOrder", unfollowed := true, recurses := true, apart := false, narrowed := true }
def FormatOrderUptoSaid : Prop := formatOrderUptoRow.holds Try.pinned (OpenSpec.upto formatOrderSpec)

/-- 'retargetlaw09.FormatFits', WHERE WHAT IT READS IS OF BULK AT MOST 1048576: true; the input reads as it did. -/
def formatFitsUptoRow : OpenClaim := { program := "ytlbkcdfllglddaa", sum := "a39df162514c8480190052fcd4179639e1933162d4938df48e028ffe1b58d798", func := "retarget/retargetlaw09.FormatFits", spec := "formatFits", unfollowed := true, recurses := true, apart := false, narrowed := true }
def FormatFitsUptoSaid : Prop := formatFitsUptoRow.holds Try.pinned (OpenSpec.upto formatFitsSpec)

/-- 'retargetlaw09.FormatNames', WHERE WHAT IT READS IS OF BULK AT MOST 1048576: true; the input reads as it did. -/
def formatNamesUptoRow : OpenClaim := { program := "ytlbkcdfllglddaa", sum := "a39df162514c8480190052fcd4179639e1933162d4938df48e028ffe1b58d798", func := "retarget/retargetlaw09.FormatNames", spec := "formatNames", unfollowed := true, recurses := true, apart := false, narrowed := true }
def FormatNamesUptoSaid : Prop := formatNamesUptoRow.holds Try.pinned (OpenSpec.upto formatNamesSpec)

/-- 'retargetlaw09.FormatBack', WHERE WHAT IT READS IS OF BULK AT MOST 1048576: true; the input reads as it did. -/
def formatBackUptoRow : OpenClaim := { program := "ytlbkcdfllglddaa", sum := "a39df162514c8480190052fcd4179639e1933162d4938df48e028ffe1b58d798", func := "retarget/retargetlaw09.FormatBack", spec := "formatBack", unfollowed := true, recurses := true, apart := false, narrowed := true }
def FormatBackUptoSaid : Prop := formatBackUptoRow.holds Try.pinned (OpenSpec.upto formatBackSpec)

end Rows
end Go.Proofs.Ytlbkcdfllglddaa
