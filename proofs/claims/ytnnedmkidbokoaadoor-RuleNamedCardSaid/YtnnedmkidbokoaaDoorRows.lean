/-
  NARROWER THAN 'FOR EVERY INPUT', by the rows' own cells (each row's printed sentence says how): RuleCommands: laid · RuleReadOnly: laid · RuleNamed: laid · RuleBounds: laid.
  DERIVED. THE GIVEN ROWS OF THIS SEAT. 4 by the template 'for every input the law returns true; each argument reads behind the call as it read before'; 0 by the template 'total and deterministic' (their statements: YtnnedmkidbokoaaDoorTotals.lean).
  GIVEN WITH THE SEED: the statements are not yours to turn. If you find one false, say at which input.
  Laid BY PROGRAM, IN A SANDBOX (cutbox-rows.mjs): the forced cells as the released guide's own fill.sh prints them over the translation c0a76e6b0e9d7ce9… (all of the seat's roots in one cut). By AI agents, Wed Nov 11 2026. No macro, syntax, notation, axiom, sorry.
-/
import Derived.Test.YtnnedmkidbokoaaDoorChecked
import GoSem.Claim
import GoSem.ClaimJoined
import GoSem.ClaimMapViews
import Derived.JoinedTies
import Derived.KernelRfl
namespace Go.Proofs.YtnnedmkidbokoaaDoor
/- THE CELL 'sum', in the pinned program and in every row, IS THE sha256 OF THE DUMP (.gsa) THAT YtnnedmkidbokoaaDoorProg.lean LOADS. Nothing in Lean hashes anything: it is a label: what it is worth is what the hold of that sum in a sandbox is worth. -/
noncomputable def Tryd.pinned : Pinned := { name := "ytnnedmkidbokoaadoor", sum := "c0a76e6b0e9d7ce93986cc9bf3ea10bc5b5bdb8774d147136fc05ad7172bbe26", checked := Tryd.checked }
namespace Rows
def none {H : Type} : Left H := { results := [], args := [] }

/- WHAT THE LISTED PACKAGE-LEVEL VARIABLES READ AS WHEN THE CALL BEGINS. Each datum BY PROGRAM (the guide's laid-datum.mjs) off the statement by which the dump's own 'gosem.cut.vars' lays the variable. In a bare row this is a premise. The card (YtnnedmkidbokoaaDoorCards.lean) ties it to the program's text. -/
def laid_spindle_rule_commands {H : Type} : DataW H := .agg [.agg [.lit (.int .u16 5), .lit (.bool false), .lit (.int .u32 22)], .agg [.lit (.int .u16 1), .lit (.bool true), .lit (.int .u32 28)], .agg [.lit (.int .u16 1), .lit (.bool false), .lit (.int .u32 0)], .agg [.lit (.int .u16 1), .lit (.bool false), .lit (.int .u32 0)], .agg [.lit (.int .u16 1), .lit (.bool true), .lit (.int .u32 22)], .agg [.lit (.int .u16 1), .lit (.bool false), .lit (.int .u32 22)], .agg [.lit (.int .u16 19), .lit (.bool true), .lit (.int .u32 28)], .agg [.lit (.int .u16 9), .lit (.bool false), .lit (.int .u32 22)]]

/-- 'spindlelaw11.RuleCommands': WHATEVER THE INPUT: true; the input reads as it did. -/
def ruleCommandsSpec : ChangeSpec := { name := "ruleCommands", fn := fun _ => fun
  | [d] => { results := [.lit (.bool true)], args := [d] }
  | _ => none }
def ruleCommandsRow : OpenClaim := { program := "ytnnedmkidbokoaadoor", sum := "c0a76e6b0e9d7ce93986cc9bf3ea10bc5b5bdb8774d147136fc05ad7172bbe26", func := "spindle/spindlelaw11.RuleCommands", spec := "ruleCommands", named := ["spindle/rule.commands"], apart := false, laid := [("spindle/rule.commands", laid_spindle_rule_commands)] }
def RuleCommandsSaid : Prop := ruleCommandsRow.holds Tryd.pinned (OpenSpec.ofChange ruleCommandsSpec)

/-- ITS FALSE NEIGHBOUR: 'it returns false'. Refute it at one input. -/
def ruleCommandsWrong : ChangeSpec := { name := "ruleCommands", fn := fun _ => fun
  | [d] => { results := [.lit (.bool false)], args := [d] }
  | _ => none }
def RuleCommandsWrongFalsely : Prop := ruleCommandsRow.holds Tryd.pinned (OpenSpec.ofChange ruleCommandsWrong)

/-- 'spindlelaw11.RuleReadOnly': WHATEVER THE INPUT: true; the input reads as it did. -/
def ruleReadOnlySpec : ChangeSpec := { name := "ruleReadOnly", fn := fun _ => fun
  | [d] => { results := [.lit (.bool true)], args := [d] }
  | _ => none }
def ruleReadOnlyRow : OpenClaim := { program := "ytnnedmkidbokoaadoor", sum := "c0a76e6b0e9d7ce93986cc9bf3ea10bc5b5bdb8774d147136fc05ad7172bbe26", func := "spindle/spindlelaw11.RuleReadOnly", spec := "ruleReadOnly", unfollowed := true, recurses := true, named := ["spindle/rule.commands"], apart := false, laid := [("spindle/rule.commands", laid_spindle_rule_commands)] }
def RuleReadOnlySaid : Prop := ruleReadOnlyRow.holds Tryd.pinned (OpenSpec.ofChange ruleReadOnlySpec)

/-- ITS FALSE NEIGHBOUR: 'it returns false'. Refute it at one input. -/
def ruleReadOnlyWrong : ChangeSpec := { name := "ruleReadOnly", fn := fun _ => fun
  | [d] => { results := [.lit (.bool false)], args := [d] }
  | _ => none }
def RuleReadOnlyWrongFalsely : Prop := ruleReadOnlyRow.holds Tryd.pinned (OpenSpec.ofChange ruleReadOnlyWrong)

/-- 'spindlelaw11.RuleNamed': WHATEVER THE INPUT: true; the input reads as it did. -/
def ruleNamedSpec : ChangeSpec := { name := "ruleNamed", fn := fun _ => fun
  | [d1, d2, d3, d4] => { results := [.lit (.bool true)], args := [d1, d2, d3, d4] }
  | _ => none }
def ruleNamedRow : OpenClaim := { program := "ytnnedmkidbokoaadoor", sum := "c0a76e6b0e9d7ce93986cc9bf3ea10bc5b5bdb8774d147136fc05ad7172bbe26", func := "spindle/spindlelaw11.RuleNamed", spec := "ruleNamed", unfollowed := true, recurses := true, named := ["spindle/rule.commands"], apart := false, laid := [("spindle/rule.commands", laid_spindle_rule_commands)] }
def RuleNamedSaid : Prop := ruleNamedRow.holds Tryd.pinned (OpenSpec.ofChange ruleNamedSpec)

/-- ITS FALSE NEIGHBOUR: 'it returns false'. Refute it at one input. -/
def ruleNamedWrong : ChangeSpec := { name := "ruleNamed", fn := fun _ => fun
  | [d1, d2, d3, d4] => { results := [.lit (.bool false)], args := [d1, d2, d3, d4] }
  | _ => none }
def RuleNamedWrongFalsely : Prop := ruleNamedRow.holds Tryd.pinned (OpenSpec.ofChange ruleNamedWrong)

/-- 'spindlelaw11.RuleBounds': WHATEVER THE INPUT: true; the input reads as it did. -/
def ruleBoundsSpec : ChangeSpec := { name := "ruleBounds", fn := fun _ => fun
  | [d] => { results := [.lit (.bool true)], args := [d] }
  | _ => none }
def ruleBoundsRow : OpenClaim := { program := "ytnnedmkidbokoaadoor", sum := "c0a76e6b0e9d7ce93986cc9bf3ea10bc5b5bdb8774d147136fc05ad7172bbe26", func := "spindle/spindlelaw11.RuleBounds", spec := "ruleBounds", unfollowed := true, recurses := true, named := ["spindle/rule.commands"], apart := false, laid := [("spindle/rule.commands", laid_spindle_rule_commands)] }
def RuleBoundsSaid : Prop := ruleBoundsRow.holds Tryd.pinned (OpenSpec.ofChange ruleBoundsSpec)

/-- ITS FALSE NEIGHBOUR: 'it returns false'. Refute it at one input. -/
def ruleBoundsWrong : ChangeSpec := { name := "ruleBounds", fn := fun _ => fun
  | [d] => { results := [.lit (.bool false)], args := [d] }
  | _ => none }
def RuleBoundsWrongFalsely : Prop := ruleBoundsRow.holds Tryd.pinned (OpenSpec.ofChange ruleBoundsWrong)

/- THE SECOND FORM. 'bulk': how many values and letters a reading holds, each counted each time it is reached (what is shared counts as often as it is met; a slice's spare places count too). A statement '..UptoSaid' is the law's where the arguments, and the package variables that the reading takes, are together of bulk at most 1048576: NARROWER than '..Said'. Prove '..Said' where nothing that the law and all that it calls make is longer than what came in: it says more and counts as full. Else prove '..UptoSaid'. A law counts once. -/
mutual
def uptoBulk {H : Type} : DataW H → Nat
  | .lit (.string bytes) => bytes.length + 1
  | .lit _ => 1
  | .nil => 1
  | .ptr d => uptoBulk d + 1
  | .slice elems spare => uptoBulkAll elems + uptoBulkAll spare + 1
  | .agg parts => uptoBulkAll parts + 1
  | .iface _ d => uptoBulk d + 1
  | .map entries => uptoBulkEntries entries + 1
  | .held _ => 1
def uptoBulkAll {H : Type} : List (DataW H) → Nat
  | [] => 0
  | d :: r => uptoBulk d + uptoBulkAll r
def uptoBulkEntries {H : Type} : List (Lit × DataW H) → Nat
  | [] => 0
  | x :: r => uptoBulkEntry x + uptoBulkEntries r
def uptoBulkEntry {H : Type} : Lit × DataW H → Nat
  | (.string bytes, d) => bytes.length + uptoBulk d + 1
  | (_, d) => uptoBulk d + 1
 end
def uptoSmall : (H : Type) → List (DataW H) → Bool := fun _ ds => decide (uptoBulkAll ds ≤ 1048576)
def OpenSpec.upto (s : _root_.Go.ChangeSpec) : _root_.Go.OpenSpec := { _root_.Go.OpenSpec.ofChange s with cond := some uptoSmall }

/-- 'spindlelaw11.RuleCommands', WHERE WHAT IT READS IS OF BULK AT MOST 1048576: true; the input reads as it did. -/
def ruleCommandsUptoRow : OpenClaim := { program := "ytnnedmkidbokoaadoor", sum := "c0a76e6b0e9d7ce93986cc9bf3ea10bc5b5bdb8774d147136fc05ad7172bbe26", func := "spindle/spindlelaw11.RuleCommands", spec := "ruleCommands", named := ["spindle/rule.commands"], apart := false, laid := [("spindle/rule.commands", laid_spindle_rule_commands)], narrowed := true }
def RuleCommandsUptoSaid : Prop := ruleCommandsUptoRow.holds Tryd.pinned (OpenSpec.upto ruleCommandsSpec)

/-- 'spindlelaw11.RuleReadOnly', WHERE WHAT IT READS IS OF BULK AT MOST 1048576: true; the input reads as it did. -/
def ruleReadOnlyUptoRow : OpenClaim := { program := "ytnnedmkidbokoaadoor", sum := "c0a76e6b0e9d7ce93986cc9bf3ea10bc5b5bdb8774d147136fc05ad7172bbe26", func := "spindle/spindlelaw11.RuleReadOnly", spec := "ruleReadOnly", unfollowed := true, recurses := true, named := ["spindle/rule.commands"], apart := false, laid := [("spindle/rule.commands", laid_spindle_rule_commands)], narrowed := true }
def RuleReadOnlyUptoSaid : Prop := ruleReadOnlyUptoRow.holds Tryd.pinned (OpenSpec.upto ruleReadOnlySpec)

/-- 'spindlelaw11.RuleNamed', WHERE WHAT IT READS IS OF BULK AT MOST 1048576: true; the input reads as it did. -/
def ruleNamedUptoRow : OpenClaim := { program := "ytnnedmkidbokoaadoor", sum := "c0a76e6b0e9d7ce93986cc9bf3ea10bc5b5bdb8774d147136fc05ad7172bbe26", func := "spindle/spindlelaw11.RuleNamed", spec := "ruleNamed", unfollowed := true, recurses := true, named := ["spindle/rule.commands"], apart := false, laid := [("spindle/rule.commands", laid_spindle_rule_commands)], narrowed := true }
def RuleNamedUptoSaid : Prop := ruleNamedUptoRow.holds Tryd.pinned (OpenSpec.upto ruleNamedSpec)

/-- 'spindlelaw11.RuleBounds', WHERE WHAT IT READS IS OF BULK AT MOST 1048576: true; the input reads as it did. -/
def ruleBoundsUptoRow : OpenClaim := { program := "ytnnedmkidbokoaadoor", sum := "c0a76e6b0e9d7ce93986cc9bf3ea10bc5b5bdb8774d147136fc05ad7172bbe26", func := "spindle/spindlelaw11.RuleBounds", spec := "ruleBounds", unfollowed := true, recurses := true, named := ["spindle/rule.commands"], apart := false, laid := [("spindle/rule.commands", laid_spindle_rule_commands)], narrowed := true }
def RuleBoundsUptoSaid : Prop := ruleBoundsUptoRow.holds Tryd.pinned (OpenSpec.upto ruleBoundsSpec)

end Rows
end Go.Proofs.YtnnedmkidbokoaaDoor
