/-
  No cell of these rows narrows 'for every input' (looked for: loops, veiled, ifaces, maps, wideKeys, modest, calm, conditions, laid).
  DERIVED. THE GIVEN ROWS OF THIS SEAT. 5 by the template 'for every input the law returns true; each argument reads behind the call as it read before'; 0 by the template 'total and deterministic' (their statements: YtiajmngjhbckjaaTotals.lean).
  GIVEN WITH THE SEED: the statements are not yours to turn. If you find one false, say at which input.
  Laid BY PROGRAM, IN A SANDBOX (cutbox-rows.mjs): the forced cells as the released guide's own fill.sh prints them over the translation 927ba172fc92916b… (all of the seat's roots in one cut). By AI agents, Wed Nov 11 2026. No macro, syntax, notation, axiom, sorry.
-/
import Derived.Test.YtiajmngjhbckjaaChecked
import GoSem.Claim
import GoSem.ClaimJoined
import GoSem.ClaimMapViews
import Derived.JoinedTies
import Derived.KernelRfl
namespace Go.Proofs.Ytiajmngjhbckjaa
/- THE CELL 'sum', in the pinned program and in every row, IS THE sha256 OF THE DUMP (.gsa) THAT YtiajmngjhbckjaaProg.lean LOADS. Nothing in Lean hashes anything: it is a label: what it is worth is what the hold of that sum in a sandbox is worth. -/
noncomputable def Try.pinned : Pinned := { name := "ytiajmngjhbckjaa", sum := "927ba172fc92916bf59af10e31c2bf9f5c2ae0e8746a1643266a5f697b986c73", checked := Try.checked }
namespace Rows
def none {H : Type} : Left H := { results := [], args := [] }

/-- 'spindlelaw01.OctetSums': WHATEVER THE INPUT: true; the input reads as it did. -/
def octetSumsSpec : ChangeSpec := { name := "octetSums", fn := fun _ => fun
  | [d] => { results := [.lit (.bool true)], args := [d] }
  | _ => none }
def octetSumsRow : OpenClaim := { program := "ytiajmngjhbckjaa", sum := "927ba172fc92916bf59af10e31c2bf9f5c2ae0e8746a1643266a5f697b986c73", func := "spindle/spindlelaw01.OctetSums", spec := "octetSums", apart := false }
def OctetSumsSaid : Prop := octetSumsRow.holds Try.pinned (OpenSpec.ofChange octetSumsSpec)

/-- ITS FALSE NEIGHBOUR: 'it returns false'. Refute it at one input. -/
def octetSumsWrong : ChangeSpec := { name := "octetSums", fn := fun _ => fun
  | [d] => { results := [.lit (.bool false)], args := [d] }
  | _ => none }
def OctetSumsWrongFalsely : Prop := octetSumsRow.holds Try.pinned (OpenSpec.ofChange octetSumsWrong)

/-- 'spindlelaw01.OctetBurst': WHATEVER THE INPUT: true; the input reads as it did. -/
def octetBurstSpec : ChangeSpec := { name := "octetBurst", fn := fun _ => fun
  | [d1, d2, d3] => { results := [.lit (.bool true)], args := [d1, d2, d3] }
  | _ => none }
def octetBurstRow : OpenClaim := { program := "ytiajmngjhbckjaa", sum := "927ba172fc92916bf59af10e31c2bf9f5c2ae0e8746a1643266a5f697b986c73", func := "spindle/spindlelaw01.OctetBurst", spec := "octetBurst", apart := false }
def OctetBurstSaid : Prop := octetBurstRow.holds Try.pinned (OpenSpec.ofChange octetBurstSpec)

/-- ITS FALSE NEIGHBOUR: 'it returns false'. Refute it at one input. -/
def octetBurstWrong : ChangeSpec := { name := "octetBurst", fn := fun _ => fun
  | [d1, d2, d3] => { results := [.lit (.bool false)], args := [d1, d2, d3] }
  | _ => none }
def OctetBurstWrongFalsely : Prop := octetBurstRow.holds Try.pinned (OpenSpec.ofChange octetBurstWrong)

/-- 'spindlelaw01.OctetHexes': WHATEVER THE INPUT: true; the input reads as it did. -/
def octetHexesSpec : ChangeSpec := { name := "octetHexes", fn := fun _ => fun
  | [d1, d2] => { results := [.lit (.bool true)], args := [d1, d2] }
  | _ => none }
def octetHexesRow : OpenClaim := { program := "ytiajmngjhbckjaa", sum := "927ba172fc92916bf59af10e31c2bf9f5c2ae0e8746a1643266a5f697b986c73", func := "spindle/spindlelaw01.OctetHexes", spec := "octetHexes", inPlace := ["internal/abi.NoEscape", "internal/bytealg.IndexByteString"], apart := false }
def OctetHexesSaid : Prop := octetHexesRow.holds Try.pinned (OpenSpec.ofChange octetHexesSpec)

/-- ITS FALSE NEIGHBOUR: 'it returns false'. Refute it at one input. -/
def octetHexesWrong : ChangeSpec := { name := "octetHexes", fn := fun _ => fun
  | [d1, d2] => { results := [.lit (.bool false)], args := [d1, d2] }
  | _ => none }
def OctetHexesWrongFalsely : Prop := octetHexesRow.holds Try.pinned (OpenSpec.ofChange octetHexesWrong)

/-- 'spindlelaw01.OctetQuotes': WHATEVER THE INPUT: true; the input reads as it did. -/
def octetQuotesSpec : ChangeSpec := { name := "octetQuotes", fn := fun _ => fun
  | [d1, d2] => { results := [.lit (.bool true)], args := [d1, d2] }
  | _ => none }
def octetQuotesRow : OpenClaim := { program := "ytiajmngjhbckjaa", sum := "927ba172fc92916bf59af10e31c2bf9f5c2ae0e8746a1643266a5f697b986c73", func := "spindle/spindlelaw01.OctetQuotes", spec := "octetQuotes", inPlace := ["internal/abi.NoEscape", "internal/bytealg.IndexByteString"], apart := false }
def OctetQuotesSaid : Prop := octetQuotesRow.holds Try.pinned (OpenSpec.ofChange octetQuotesSpec)

/-- ITS FALSE NEIGHBOUR: 'it returns false'. Refute it at one input. -/
def octetQuotesWrong : ChangeSpec := { name := "octetQuotes", fn := fun _ => fun
  | [d1, d2] => { results := [.lit (.bool false)], args := [d1, d2] }
  | _ => none }
def OctetQuotesWrongFalsely : Prop := octetQuotesRow.holds Try.pinned (OpenSpec.ofChange octetQuotesWrong)

/-- 'spindlelaw01.OctetQuoteBack': WHATEVER THE INPUT: true; the input reads as it did. -/
def octetQuoteBackSpec : ChangeSpec := { name := "octetQuoteBack", fn := fun _ => fun
  | [d1, d2] => { results := [.lit (.bool true)], args := [d1, d2] }
  | _ => none }
def octetQuoteBackRow : OpenClaim := { program := "ytiajmngjhbckjaa", sum := "927ba172fc92916bf59af10e31c2bf9f5c2ae0e8746a1643266a5f697b986c73", func := "spindle/spindlelaw01.OctetQuoteBack", spec := "octetQuoteBack", inPlace := ["internal/abi.NoEscape", "internal/bytealg.IndexByteString"], apart := false }
def OctetQuoteBackSaid : Prop := octetQuoteBackRow.holds Try.pinned (OpenSpec.ofChange octetQuoteBackSpec)

/-- ITS FALSE NEIGHBOUR: 'it returns false'. Refute it at one input. -/
def octetQuoteBackWrong : ChangeSpec := { name := "octetQuoteBack", fn := fun _ => fun
  | [d1, d2] => { results := [.lit (.bool false)], args := [d1, d2] }
  | _ => none }
def OctetQuoteBackWrongFalsely : Prop := octetQuoteBackRow.holds Try.pinned (OpenSpec.ofChange octetQuoteBackWrong)

/- THE SECOND FORM. 'bulk': how many values and letters a reading holds, each counted each time it is reached (what is shared counts as often as it is met; a slice's spare places count too). A statement '..UptoSaid' is the law's where the arguments, and the package variables that the reading takes, are together of bulk at most 1048576: NARROWER than '..Said'. Prove '..Said' where nothing that the law and all that it calls make is longer than what came in: it says more and counts as full. Else prove '..UptoSaid'. A law counts once. -/
mutual
def uptoBulk {H : Type} : DataW H → Nat
  | .lit (.string bytes) => bytes.length + 1
  | .lit _ => 1
  | .nil => 1
  | .ptr d => uptoBulk d + 1
  | .slice elems spare => uptoBulkAll elems + uptoBulkAll spare + 1
  | .agg parts => uptoBulkAll parts + 1
  | .iface _ d => uptoBulk d + 1
  | .map entries => uptoBulkEntries entries + 1
  | .held _ => 1
def uptoBulkAll {H : Type} : List (DataW H) → Nat
  | [] => 0
  | d :: r => uptoBulk d + uptoBulkAll r
def uptoBulkEntries {H : Type} : List (Lit × DataW H) → Nat
  | [] => 0
  | x :: r => uptoBulkEntry x + uptoBulkEntries r
def uptoBulkEntry {H : Type} : Lit × DataW H → Nat
  | (.string bytes, d) => bytes.length + uptoBulk d + 1
  | (_, d) => uptoBulk d + 1
 end
def uptoSmall : (H : Type) → List (DataW H) → Bool := fun _ ds => decide (uptoBulkAll ds ≤ 1048576)
def OpenSpec.upto (s : _root_.Go.ChangeSpec) : _root_.Go.OpenSpec := { _root_.Go.OpenSpec.ofChange s with cond := some uptoSmall }

/-- 'spindlelaw01.OctetSums', WHERE WHAT IT READS IS OF BULK AT MOST 1048576: true; the input reads as it did. -/
def octetSumsUptoRow : OpenClaim := { program := "ytiajmngjhbckjaa", sum := "927ba172fc92916bf59af10e31c2bf9f5c2ae0e8746a1643266a5f697b986c73", func := "spindle/spindlelaw01.OctetSums", spec := "octetSums", apart := false, narrowed := true }
def OctetSumsUptoSaid : Prop := octetSumsUptoRow.holds Try.pinned (OpenSpec.upto octetSumsSpec)

/-- 'spindlelaw01.OctetBurst', WHERE WHAT IT READS IS OF BULK AT MOST 1048576: true; the input reads as it did. -/
def octetBurstUptoRow : OpenClaim := { program := "ytiajmngjhbckjaa", sum := "927ba172fc92916bf59af10e31c2bf9f5c2ae0e8746a1643266a5f697b986c73", func := "spindle/spindlelaw01.OctetBurst", spec := "octetBurst", apart := false, narrowed := true }
def OctetBurstUptoSaid : Prop := octetBurstUptoRow.holds Try.pinned (OpenSpec.upto octetBurstSpec)

/-- 'spindlelaw01.OctetHexes', WHERE WHAT IT READS IS OF BULK AT MOST 1048576: true; the input reads as it did. -/
def octetHexesUptoRow : OpenClaim := { program := "ytiajmngjhbckjaa", sum := "927ba172fc92916bf59af10e31c2bf9f5c2ae0e8746a1643266a5f697b986c73", func := "spindle/spindlelaw01.OctetHexes", spec := "octetHexes", inPlace := ["internal/abi.NoEscape", "internal/bytealg.IndexByteString"], apart := false, narrowed := true }
def OctetHexesUptoSaid : Prop := octetHexesUptoRow.holds Try.pinned (OpenSpec.upto octetHexesSpec)

/-- 'spindlelaw01.OctetQuotes', WHERE WHAT IT READS IS OF BULK AT MOST 1048576: true; the input reads as it did. -/
def octetQuotesUptoRow : OpenClaim := { program := "ytiajmngjhbckjaa", sum := "927ba172fc92916bf59af10e31c2bf9f5c2ae0e8746a1643266a5f697b986c73", func := "spindle/spindlelaw01.OctetQuotes", spec := "octetQuotes", inPlace := ["internal/abi.NoEscape", "internal/bytealg.IndexByteString"], apart := false, narrowed := true }
def OctetQuotesUptoSaid : Prop := octetQuotesUptoRow.holds Try.pinned (OpenSpec.upto octetQuotesSpec)

/-- 'spindlelaw01.OctetQuoteBack', WHERE WHAT IT READS IS OF BULK AT MOST 1048576: true; the input reads as it did. -/
def octetQuoteBackUptoRow : OpenClaim := { program := "ytiajmngjhbckjaa", sum := "927ba172fc92916bf59af10e31c2bf9f5c2ae0e8746a1643266a5f697b986c73", func := "spindle/spindlelaw01.OctetQuoteBack", spec := "octetQuoteBack", inPlace := ["internal/abi.NoEscape", "internal/bytealg.IndexByteString"], apart := false, narrowed := true }
def OctetQuoteBackUptoSaid : Prop := octetQuoteBackUptoRow.holds Try.pinned (OpenSpec.upto octetQuoteBackSpec)

end Rows
end Go.Proofs.Ytiajmngjhbckjaa
