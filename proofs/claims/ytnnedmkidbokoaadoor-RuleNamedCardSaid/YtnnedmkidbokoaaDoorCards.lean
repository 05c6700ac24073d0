/-
  DERIVED. GIVEN WITH THE SEED: THE CARDS: each row of YtnnedmkidbokoaaDoorRows.lean that lists a variable, with what it lists TIED to the program's text (the seventh form; the later family's looks); each row that meets fmt, with fmt's text TOLD by the authors' own Lean function (tested against real Go, not proved from fmt's source: count such statements apart). THE CARD IS WHAT COUNTS. Prove the row's statement (the work); the ties are given (YtnnedmkidbokoaaDoorTie.lean); close each card by the builder's one call (the guide's Derived/Test/ToyasCard.lean, 'card_holds'). Laid BY PROGRAM, IN A SANDBOX (cutbox-door.mjs). By AI agents, Wed Nov 11 2026. No macro, syntax, notation, axiom, sorry.
-/
import Derived.Test.YtnnedmkidbokoaaDoorRows
import GoSem.ClaimSeven
namespace Go.Proofs.YtnnedmkidbokoaaDoor
namespace Rows

/-- THE TIED CARD OF 'spindlelaw11.RuleCommands'. -/
def ruleCommandsCard : Claim7 := { stood := { row := ruleCommandsRow, standIns := [], harness := (true, "c2c6182cfc6bf074e20dfa36f6919ab50938eab6f805a1639d46b7a6f6c44e3e"), looks := false }, kinds := [], alts := [], laidByText := true, laidKinds := [.data], laidTests := true, laidLooks := .later }
def RuleCommandsCardSaid : Prop := Claim7.holds Tryd.pinned (.plain (OpenSpec.ofChange ruleCommandsSpec)) ruleCommandsCard

/-- THE TIED CARD OF 'spindlelaw11.RuleReadOnly'. -/
def ruleReadOnlyCard : Claim7 := { stood := { row := ruleReadOnlyRow, standIns := [], harness := (true, "c2c6182cfc6bf074e20dfa36f6919ab50938eab6f805a1639d46b7a6f6c44e3e"), looks := false }, kinds := [], alts := [], laidByText := true, laidKinds := [.data], laidTests := true, laidLooks := .later }
def RuleReadOnlyCardSaid : Prop := Claim7.holds Tryd.pinned (.plain (OpenSpec.ofChange ruleReadOnlySpec)) ruleReadOnlyCard

/-- THE TIED CARD OF 'spindlelaw11.RuleNamed'. -/
def ruleNamedCard : Claim7 := { stood := { row := ruleNamedRow, standIns := [], harness := (true, "c2c6182cfc6bf074e20dfa36f6919ab50938eab6f805a1639d46b7a6f6c44e3e"), looks := false }, kinds := [], alts := [], laidByText := true, laidKinds := [.data], laidTests := true, laidLooks := .later }
def RuleNamedCardSaid : Prop := Claim7.holds Tryd.pinned (.plain (OpenSpec.ofChange ruleNamedSpec)) ruleNamedCard

/-- THE TIED CARD OF 'spindlelaw11.RuleBounds'. -/
def ruleBoundsCard : Claim7 := { stood := { row := ruleBoundsRow, standIns := [], harness := (true, "c2c6182cfc6bf074e20dfa36f6919ab50938eab6f805a1639d46b7a6f6c44e3e"), looks := false }, kinds := [], alts := [], laidByText := true, laidKinds := [.data], laidTests := true, laidLooks := .later }
def RuleBoundsCardSaid : Prop := Claim7.holds Tryd.pinned (.plain (OpenSpec.ofChange ruleBoundsSpec)) ruleBoundsCard

/-- THE SECOND FORM's CARD OF 'spindlelaw11.RuleCommands'. -/
def ruleCommandsUptoCard : Claim7 := { stood := { row := ruleCommandsUptoRow, standIns := [], harness := (true, "c2c6182cfc6bf074e20dfa36f6919ab50938eab6f805a1639d46b7a6f6c44e3e"), looks := false }, kinds := [], alts := [], laidByText := true, laidKinds := [.data], laidTests := true, laidLooks := .later }
def RuleCommandsUptoCardSaid : Prop := Claim7.holds Tryd.pinned (.plain (OpenSpec.upto ruleCommandsSpec)) ruleCommandsUptoCard

/-- THE SECOND FORM's CARD OF 'spindlelaw11.RuleReadOnly'. -/
def ruleReadOnlyUptoCard : Claim7 := { stood := { row := ruleReadOnlyUptoRow, standIns := [], harness := (true, "c2c6182cfc6bf074e20dfa36f6919ab50938eab6f805a1639d46b7a6f6c44e3e"), looks := false }, kinds := [], alts := [], laidByText := true, laidKinds := [.data], laidTests := true, laidLooks := .later }
def RuleReadOnlyUptoCardSaid : Prop := Claim7.holds Tryd.pinned (.plain (OpenSpec.upto ruleReadOnlySpec)) ruleReadOnlyUptoCard

/-- THE SECOND FORM's CARD OF 'spindlelaw11.RuleNamed'. -/
def ruleNamedUptoCard : Claim7 := { stood := { row := ruleNamedUptoRow, standIns := [], harness := (true, "c2c6182cfc6bf074e20dfa36f6919ab50938eab6f805a1639d46b7a6f6c44e3e"), looks := false }, kinds := [], alts := [], laidByText := true, laidKinds := [.data], laidTests := true, laidLooks := .later }
def RuleNamedUptoCardSaid : Prop := Claim7.holds Tryd.pinned (.plain (OpenSpec.upto ruleNamedSpec)) ruleNamedUptoCard

/-- THE SECOND FORM's CARD OF 'spindlelaw11.RuleBounds'. -/
def ruleBoundsUptoCard : Claim7 := { stood := { row := ruleBoundsUptoRow, standIns := [], harness := (true, "c2c6182cfc6bf074e20dfa36f6919ab50938eab6f805a1639d46b7a6f6c44e3e"), looks := false }, kinds := [], alts := [], laidByText := true, laidKinds := [.data], laidTests := true, laidLooks := .later }
def RuleBoundsUptoCardSaid : Prop := Claim7.holds Tryd.pinned (.plain (OpenSpec.upto ruleBoundsSpec)) ruleBoundsUptoCard
end Rows
end Go.Proofs.YtnnedmkidbokoaaDoor
