/-
  No cell of these rows narrows 'for every input' (looked for: loops, veiled, ifaces, maps, wideKeys, modest, calm, conditions, laid).
  DERIVED. THE GIVEN ROWS OF THIS SEAT. 2 by the template 'for every input the law returns true; each argument reads behind the call as it read before'; 0 by the template 'total and deterministic' (their statements: YtfpajigkbogenaaTotals.lean).
  GIVEN WITH THE SEED: the statements are not yours to turn. If you find one false, say at which input.
  Laid BY PROGRAM, IN A SANDBOX (cutbox-rows.mjs): the forced cells as the released guide's own fill.sh prints them over the translation 619daf0db2d73ad6… (all of the seat's roots in one cut). By AI agents, Wed Nov 11 2026. No macro, syntax, notation, axiom, sorry.
-/
import Derived.Test.YtfpajigkbogenaaChecked
import GoSem.Claim
import GoSem.ClaimJoined
import GoSem.ClaimMapViews
import Derived.JoinedTies
import Derived.KernelRfl
namespace Go.Proofs.Ytfpajigkbogenaa
/- THE CELL 'sum', in the pinned program and in every row, IS THE sha256 OF THE DUMP (.gsa) THAT YtfpajigkbogenaaProg.lean LOADS. Nothing in Lean hashes anything: it is a label: what it is worth is what the hold of that sum in a sandbox is worth. -/
noncomputable def Try.pinned : Pinned := { name := "ytfpajigkbogenaa", sum := "619daf0db2d73ad675df60d7bfdd5b6f955b6d3fdfbea8949dea6c242034580e", checked := Try.checked }
namespace Rows
def none {H : Type} : Left H := { results := [], args := [] }

/-- 'spindlelaw02.ExtentNames': WHATEVER THE INPUT: true; the input reads as it did. -/
def extentNamesSpec : ChangeSpec := { name := "extentNames", fn := fun _ => fun
  | [] => { results := [.lit (.bool true)], args := [] }
  | _ => none }
def extentNamesRow : OpenClaim := { program := "ytfpajigkbogenaa", sum := "619daf0db2d73ad675df60d7bfdd5b6f955b6d3fdfbea8949dea6c242034580e", func := "spindle/spindlelaw02.ExtentNames", spec := "extentNames", apart := false }
def ExtentNamesSaid : Prop := extentNamesRow.holds Try.pinned (OpenSpec.ofChange extentNamesSpec)

/-- ITS FALSE NEIGHBOUR: 'it returns false'. Refute it at one input. -/
def extentNamesWrong : ChangeSpec := { name := "extentNames", fn := fun _ => fun
  | [] => { results := [.lit (.bool false)], args := [] }
  | _ => none }
def ExtentNamesWrongFalsely : Prop := extentNamesRow.holds Try.pinned (OpenSpec.ofChange extentNamesWrong)

/-- 'spindlelaw04.RecentNames': WHATEVER THE INPUT: true; the input reads as it did. -/
def recentNamesSpec : ChangeSpec := { name := "recentNames", fn := fun _ => fun
  | [] => { results := [.lit (.bool true)], args := [] }
  | _ => none }
def recentNamesRow : OpenClaim := { program := "ytfpajigkbogenaa", sum := "619daf0db2d73ad675df60d7bfdd5b6f955b6d3fdfbea8949dea6c242034580e", func := "spindle/spindlelaw04.RecentNames", spec := "recentNames", apart := false }
def RecentNamesSaid : Prop := recentNamesRow.holds Try.pinned (OpenSpec.ofChange recentNamesSpec)

/-- ITS FALSE NEIGHBOUR: 'it returns false'. Refute it at one input. -/
def recentNamesWrong : ChangeSpec := { name := "recentNames", fn := fun _ => fun
  | [] => { results := [.lit (.bool false)], args := [] }
  | _ => none }
def RecentNamesWrongFalsely : Prop := recentNamesRow.holds Try.pinned (OpenSpec.ofChange recentNamesWrong)

/- THE SECOND FORM. 'bulk': how many values and letters a reading holds, each counted each time it is reached (what is shared counts as often as it is met; a slice's spare places count too). A statement '..UptoSaid' is the law's where the arguments, and the package variables that the reading takes, are together of bulk at most 1048576: NARROWER than '..Said'. Prove '..Said' where nothing that the law and all that it calls make is longer than what came in: it says more and counts as full. Else prove '..UptoSaid'. A law counts once. -/
mutual
def uptoBulk {H : Type} : DataW H → Nat
  | .lit (.string bytes) => bytes.length + 1
  | .lit _ => 1
  | .nil => 1
  | .ptr d => uptoBulk d + 1
  | .slice elems spare => uptoBulkAll elems + uptoBulkAll spare + 1
  | .agg parts => uptoBulkAll parts + 1
  | .iface _ d => uptoBulk d + 1
  | .map entries => uptoBulkEntries entries + 1
  | .held _ => 1
def uptoBulkAll {H : Type} : List (DataW H) → Nat
  | [] => 0
  | d :: r => uptoBulk d + uptoBulkAll r
def uptoBulkEntries {H : Type} : List (Lit × DataW H) → Nat
  | [] => 0
  | x :: r => uptoBulkEntry x + uptoBulkEntries r
def uptoBulkEntry {H : Type} : Lit × DataW H → Nat
  | (.string bytes, d) => bytes.length + uptoBulk d + 1
  | (_, d) => uptoBulk d + 1
 end
def uptoSmall : (H : Type) → List (DataW H) → Bool := fun _ ds => decide (uptoBulkAll ds ≤ 1048576)
def OpenSpec.upto (s : _root_.Go.ChangeSpec) : _root_.Go.OpenSpec := { _root_.Go.OpenSpec.ofChange s with cond := some uptoSmall }

/-- 'spindlelaw02.ExtentNames', WHERE WHAT IT READS IS OF BULK AT MOST 1048576: true; the input reads as it did. -/
def extentNamesUptoRow : OpenClaim := { program := "ytfpajigkbogenaa", sum := "619daf0db2d73ad675df60d7bfdd5b6f955b6d3fdfbea8949dea6c242034580e", func := "spindle/spindlelaw02.ExtentNames", spec := "extentNames", apart := false, narrowed := true }
def ExtentNamesUptoSaid : Prop := extentNamesUptoRow.holds Try.pinned (OpenSpec.upto extentNamesSpec)

/-- 'spindlelaw04.RecentNames', WHERE WHAT IT READS IS OF BULK AT MOST 1048576: true; the input reads as it did. -/
def recentNamesUptoRow : OpenClaim := { program := "ytfpajigkbogenaa", sum := "619daf0db2d73ad675df60d7bfdd5b6f955b6d3fdfbea8949dea6c242034580e", func := "spindle/spindlelaw04.RecentNames", spec := "recentNames", apart := false, narrowed := true }
def RecentNamesUptoSaid : Prop := recentNamesUptoRow.holds Try.pinned (OpenSpec.upto recentNamesSpec)

end Rows
end Go.Proofs.Ytfpajigkbogenaa
