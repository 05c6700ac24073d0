/-
  No cell of these rows narrows 'for every input' (looked for: loops, veiled, ifaces, maps, wideKeys, modest, calm, conditions, laid).
  DERIVED. THE GIVEN ROWS OF THIS SEAT. 9 by the template 'for every input the law returns true; each argument reads behind the call as it read before'; 0 by the template 'total and deterministic' (their statements: YtjddjjfcongnlaaTotals.lean).
  GIVEN WITH THE SEED: the statements are not yours to turn. If you find one false, say at which input.
  Laid BY PROGRAM, IN A SANDBOX (cutbox-rows.mjs): the forced cells as the released guide's own fill.sh prints them over the translation 80a543e8950620cc… (all of the seat's roots in one cut). By AI agents, Wed Nov 11 2026. No macro, syntax, notation, axiom, sorry.
-/
import Derived.Test.YtjddjjfcongnlaaChecked
import GoSem.Claim
import GoSem.ClaimJoined
import GoSem.ClaimMapViews
import Derived.JoinedTies
import Derived.KernelRfl
namespace Go.Proofs.Ytjddjjfcongnlaa
/- THE CELL 'sum', in the pinned program and in every row, IS THE sha256 OF THE DUMP (.gsa) THAT YtjddjjfcongnlaaProg.lean LOADS. Nothing in Lean hashes anything: it is a label: what it is worth is what the hold of that sum in a sandbox is worth. -/
noncomputable def Try.pinned : Pinned := { name := "ytjddjjfcongnlaa", sum := "80a543e8950620ccd57f75403ee7cb67db509f87e2dfc66fbe771f6edf70e2e9", checked := Try.checked }
namespace Rows
def none {H : Type} : Left H := { results := [], args := [] }

/-- 'spindlelaw04.RecentNames': WHATEVER THE INPUT: true; the input reads as it did. -/
def recentNamesSpec : ChangeSpec := { name := "recentNames", fn := fun _ => fun
  | [] => { results := [.lit (.bool true)], args := [] }
  | _ => none }
def recentNamesRow : OpenClaim := { program := "ytjddjjfcongnlaa", sum := "80a543e8950620ccd57f75403ee7cb67db509f87e2dfc66fbe771f6edf70e2e9", func := "spindle/spindlelaw04.RecentNames", spec := "recentNames", plainKeys := false, apart := false }
def RecentNamesSaid : Prop := recentNamesRow.holds Try.pinned (OpenSpec.ofChange recentNamesSpec)

/-- ITS FALSE NEIGHBOUR: 'it returns false'. Refute it at one input. -/
def recentNamesWrong : ChangeSpec := { name := "recentNames", fn := fun _ => fun
  | [] => { results := [.lit (.bool false)], args := [] }
  | _ => none }
def RecentNamesWrongFalsely : Prop := recentNamesRow.holds Try.pinned (OpenSpec.ofChange recentNamesWrong)

/-- 'spindlelaw04.RecentPins': WHATEVER THE INPUT: true; the input reads as it did. -/
def recentPinsSpec : ChangeSpec := { name := "recentPins", fn := fun _ => fun
  | [d1, d2, d3] => { results := [.lit (.bool true)], args := [d1, d2, d3] }
  | _ => none }
def recentPinsRow : OpenClaim := { program := "ytjddjjfcongnlaa", sum := "80a543e8950620ccd57f75403ee7cb67db509f87e2dfc66fbe771f6edf70e2e9", func := "spindle/spindlelaw04.RecentPins", spec := "recentPins", unfollowed := true, recurses := true, plainKeys := false, apart := false }
def RecentPinsSaid : Prop := recentPinsRow.holds Try.pinned (OpenSpec.ofChange recentPinsSpec)

/-- ITS FALSE NEIGHBOUR: 'it returns false'. Refute it at one input. -/
def recentPinsWrong : ChangeSpec := { name := "recentPins", fn := fun _ => fun
  | [d1, d2, d3] => { results := [.lit (.bool false)], args := [d1, d2, d3] }
  | _ => none }
def RecentPinsWrongFalsely : Prop := recentPinsRow.holds Try.pinned (OpenSpec.ofChange recentPinsWrong)

/-- 'spindlelaw04.RecentLast': WHATEVER THE INPUT: true; the input reads as it did. -/
def recentLastSpec : ChangeSpec := { name := "recentLast", fn := fun _ => fun
  | [d1, d2] => { results := [.lit (.bool true)], args := [d1, d2] }
  | _ => none }
def recentLastRow : OpenClaim := { program := "ytjddjjfcongnlaa", sum := "80a543e8950620ccd57f75403ee7cb67db509f87e2dfc66fbe771f6edf70e2e9", func := "spindle/spindlelaw04.RecentLast", spec := "recentLast", unfollowed := true, recurses := true, plainKeys := false, apart := false }
def RecentLastSaid : Prop := recentLastRow.holds Try.pinned (OpenSpec.ofChange recentLastSpec)

/-- ITS FALSE NEIGHBOUR: 'it returns false'. Refute it at one input. -/
def recentLastWrong : ChangeSpec := { name := "recentLast", fn := fun _ => fun
  | [d1, d2] => { results := [.lit (.bool false)], args := [d1, d2] }
  | _ => none }
def RecentLastWrongFalsely : Prop := recentLastRow.holds Try.pinned (OpenSpec.ofChange recentLastWrong)

/-- 'spindlelaw04.RecentSeen': WHATEVER THE INPUT: true; the input reads as it did. -/
def recentSeenSpec : ChangeSpec := { name := "recentSeen", fn := fun _ => fun
  | [d1, d2, d3] => { results := [.lit (.bool true)], args := [d1, d2, d3] }
  | _ => none }
def recentSeenRow : OpenClaim := { program := "ytjddjjfcongnlaa", sum := "80a543e8950620ccd57f75403ee7cb67db509f87e2dfc66fbe771f6edf70e2e9", func := "spindle/spindlelaw04.RecentSeen", spec := "recentSeen", unfollowed := true, recurses := true, plainKeys := false, apart := false }
def RecentSeenSaid : Prop := recentSeenRow.holds Try.pinned (OpenSpec.ofChange recentSeenSpec)

/-- ITS FALSE NEIGHBOUR: 'it returns false'. Refute it at one input. -/
def recentSeenWrong : ChangeSpec := { name := "recentSeen", fn := fun _ => fun
  | [d1, d2, d3] => { results := [.lit (.bool false)], args := [d1, d2, d3] }
  | _ => none }
def RecentSeenWrongFalsely : Prop := recentSeenRow.holds Try.pinned (OpenSpec.ofChange recentSeenWrong)

/-- 'spindlelaw04.RecentPlays': WHATEVER THE INPUT: true; the input reads as it did. -/
def recentPlaysSpec : ChangeSpec := { name := "recentPlays", fn := fun _ => fun
  | [d1, d2] => { results := [.lit (.bool true)], args := [d1, d2] }
  | _ => none }
def recentPlaysRow : OpenClaim := { program := "ytjddjjfcongnlaa", sum := "80a543e8950620ccd57f75403ee7cb67db509f87e2dfc66fbe771f6edf70e2e9", func := "spindle/spindlelaw04.RecentPlays", spec := "recentPlays", unfollowed := true, recurses := true, plainKeys := false, apart := false }
def RecentPlaysSaid : Prop := recentPlaysRow.holds Try.pinned (OpenSpec.ofChange recentPlaysSpec)

/-- ITS FALSE NEIGHBOUR: 'it returns false'. Refute it at one input. -/
def recentPlaysWrong : ChangeSpec := { name := "recentPlays", fn := fun _ => fun
  | [d1, d2] => { results := [.lit (.bool false)], args := [d1, d2] }
  | _ => none }
def RecentPlaysWrongFalsely : Prop := recentPlaysRow.holds Try.pinned (OpenSpec.ofChange recentPlaysWrong)

/-- 'spindlelaw04.RecentPairs': WHATEVER THE INPUT: true; the input reads as it did. -/
def recentPairsSpec : ChangeSpec := { name := "recentPairs", fn := fun _ => fun
  | [d1, d2] => { results := [.lit (.bool true)], args := [d1, d2] }
  | _ => none }
def recentPairsRow : OpenClaim := { program := "ytjddjjfcongnlaa", sum := "80a543e8950620ccd57f75403ee7cb67db509f87e2dfc66fbe771f6edf70e2e9", func := "spindle/spindlelaw04.RecentPairs", spec := "recentPairs", unfollowed := true, recurses := true, plainKeys := false, apart := false }
def RecentPairsSaid : Prop := recentPairsRow.holds Try.pinned (OpenSpec.ofChange recentPairsSpec)

/-- ITS FALSE NEIGHBOUR: 'it returns false'. Refute it at one input. -/
def recentPairsWrong : ChangeSpec := { name := "recentPairs", fn := fun _ => fun
  | [d1, d2] => { results := [.lit (.bool false)], args := [d1, d2] }
  | _ => none }
def RecentPairsWrongFalsely : Prop := recentPairsRow.holds Try.pinned (OpenSpec.ofChange recentPairsWrong)

/-- 'spindlelaw04.RecentRow': WHATEVER THE INPUT: true; the input reads as it did. -/
def recentRowSpec : ChangeSpec := { name := "recentRow", fn := fun _ => fun
  | [d1, d2] => { results := [.lit (.bool true)], args := [d1, d2] }
  | _ => none }
def recentRowRow : OpenClaim := { program := "ytjddjjfcongnlaa", sum := "80a543e8950620ccd57f75403ee7cb67db509f87e2dfc66fbe771f6edf70e2e9", func := "spindle/spindlelaw04.RecentRow", spec := "recentRow", unfollowed := true, recurses := true, plainKeys := false, apart := false }
def RecentRowSaid : Prop := recentRowRow.holds Try.pinned (OpenSpec.ofChange recentRowSpec)

/-- ITS FALSE NEIGHBOUR: 'it returns false'. Refute it at one input. -/
def recentRowWrong : ChangeSpec := { name := "recentRow", fn := fun _ => fun
  | [d1, d2] => { results := [.lit (.bool false)], args := [d1, d2] }
  | _ => none }
def RecentRowWrongFalsely : Prop := recentRowRow.holds Try.pinned (OpenSpec.ofChange recentRowWrong)

/-- 'spindlelaw04.RecentApart': WHATEVER THE INPUT: true; the input reads as it did. -/
def recentApartSpec : ChangeSpec := { name := "recentApart", fn := fun _ => fun
  | [d1, d2] => { results := [.lit (.bool true)], args := [d1, d2] }
  | _ => none }
def recentApartRow : OpenClaim := { program := "ytjddjjfcongnlaa", sum := "80a543e8950620ccd57f75403ee7cb67db509f87e2dfc66fbe771f6edf70e2e9", func := "spindle/spindlelaw04.RecentApart", spec := "recentApart", unfollowed := true, recurses := true, plainKeys := false, apart := false }
def RecentApartSaid : Prop := recentApartRow.holds Try.pinned (OpenSpec.ofChange recentApartSpec)

/-- ITS FALSE NEIGHBOUR: 'it returns false'. Refute it at one input. -/
def recentApartWrong : ChangeSpec := { name := "recentApart", fn := fun _ => fun
  | [d1, d2] => { results := [.lit (.bool false)], args := [d1, d2] }
  | _ => none }
def RecentApartWrongFalsely : Prop := recentApartRow.holds Try.pinned (OpenSpec.ofChange recentApartWrong)

/-- 'spindlelaw04.RecentNobody': WHATEVER THE INPUT: true; the input reads as it did. -/
def recentNobodySpec : ChangeSpec := { name := "recentNobody", fn := fun _ => fun
  | [d1, d2] => { results := [.lit (.bool true)], args := [d1, d2] }
  | _ => none }
def recentNobodyRow : OpenClaim := { program := "ytjddjjfcongnlaa", sum := "80a543e8950620ccd57f75403ee7cb67db509f87e2dfc66fbe771f6edf70e2e9", func := "spindle/spindlelaw04.RecentNobody", spec := "recentNobody", unfollowed := true, recurses := true, plainKeys := false, apart := false }
def RecentNobodySaid : Prop := recentNobodyRow.holds Try.pinned (OpenSpec.ofChange recentNobodySpec)

/-- ITS FALSE NEIGHBOUR: 'it returns false'. Refute it at one input. -/
def recentNobodyWrong : ChangeSpec := { name := "recentNobody", fn := fun _ => fun
  | [d1, d2] => { results := [.lit (.bool false)], args := [d1, d2] }
  | _ => none }
def RecentNobodyWrongFalsely : Prop := recentNobodyRow.holds Try.pinned (OpenSpec.ofChange recentNobodyWrong)

/- THE SECOND FORM. 'bulk': how many values and letters a reading holds, each counted each time it is reached (what is shared counts as often as it is met; a slice's spare places count too). A statement '..UptoSaid' is the law's where the arguments, and the package variables that the reading takes, are together of bulk at most 1048576: NARROWER than '..Said'. Prove '..Said' where nothing that the law and all that it calls make is longer than what came in: it says more and counts as full. Else prove '..UptoSaid'. A law counts once. -/
mutual
def uptoBulk {H : Type} : DataW H → Nat
  | .lit (.string bytes) => bytes.length + 1
  | .lit _ => 1
  | .nil => 1
  | .ptr d => uptoBulk d + 1
  | .slice elems spare => uptoBulkAll elems + uptoBulkAll spare + 1
  | .agg parts => uptoBulkAll parts + 1
  | .iface _ d => uptoBulk d + 1
  | .map entries => uptoBulkEntries entries + 1
  | .held _ => 1
def uptoBulkAll {H : Type} : List (DataW H) → Nat
  | [] => 0
  | d :: r => uptoBulk d + uptoBulkAll r
def uptoBulkEntries {H : Type} : List (Lit × DataW H) → Nat
  | [] => 0
  | x :: r => uptoBulkEntry x + uptoBulkEntries r
def uptoBulkEntry {H : Type} : Lit × DataW H → Nat
  | (.string bytes, d) => bytes.length + uptoBulk d + 1
  | (_, d) => uptoBulk d + 1
 end
def uptoSmall : (H : Type) → List (DataW H) → Bool := fun _ ds => decide (uptoBulkAll ds ≤ 1048576)
def OpenSpec.upto (s : _root_.Go.ChangeSpec) : _root_.Go.OpenSpec := { _root_.Go.OpenSpec.ofChange s with cond := some uptoSmall }

/-- 'spindlelaw04.RecentNames', WHERE WHAT IT READS IS OF BULK AT MOST 1048576: true; the input reads as it did. -/
def recentNamesUptoRow : OpenClaim := { program := "ytjddjjfcongnlaa", sum := "80a543e8950620ccd57f75403ee7cb67db509f87e2dfc66fbe771f6edf70e2e9", func := "spindle/spindlelaw04.RecentNames", spec := "recentNames", plainKeys := false, apart := false, narrowed := true }
def RecentNamesUptoSaid : Prop := recentNamesUptoRow.holds Try.pinned (OpenSpec.upto recentNamesSpec)

/-- 'spindlelaw04.RecentPins', WHERE WHAT IT READS IS OF BULK AT MOST 1048576: true; the input reads as it did. -/
def recentPinsUptoRow : OpenClaim := { program := "ytjddjjfcongnlaa", sum := "80a543e8950620ccd57f75403ee7cb67db509f87e2dfc66fbe771f6edf70e2e9", func := "spindle/spindlelaw04.RecentPins", spec := "recentPins", unfollowed := true, recurses := true, plainKeys := false, apart := false, narrowed := true }
def RecentPinsUptoSaid : Prop := recentPinsUptoRow.holds Try.pinned (OpenSpec.upto recentPinsSpec)

/-- 'spindlelaw04.RecentLast', WHERE WHAT IT READS IS OF BULK AT MOST 1048576: true; the input reads as it did. -/
def recentLastUptoRow : OpenClaim := { program := "ytjddjjfcongnlaa", sum := "80a543e8950620ccd57f75403ee7cb67db509f87e2dfc66fbe771f6edf70e2e9", func := "spindle/spindlelaw04.RecentLast", spec := "recentLast", unfollowed := true, recurses := true, plainKeys := false, apart := false, narrowed := true }
def RecentLastUptoSaid : Prop := recentLastUptoRow.holds Try.pinned (OpenSpec.upto recentLastSpec)

/-- 'spindlelaw04.RecentSeen', WHERE WHAT IT READS IS OF BULK AT MOST 1048576: true; the input reads as it did. -/
def recentSeenUptoRow : OpenClaim := { program := "ytjddjjfcongnlaa", sum := "80a543e8950620ccd57f75403ee7cb67db509f87e2dfc66fbe771f6edf70e2e9", func := "spindle/spindlelaw04.RecentSeen", spec := "recentSeen", unfollowed := true, recurses := true, plainKeys := false, apart := false, narrowed := true }
def RecentSeenUptoSaid : Prop := recentSeenUptoRow.holds Try.pinned (OpenSpec.upto recentSeenSpec)

/-- 'spindlelaw04.RecentPlays', WHERE WHAT IT READS IS OF BULK AT MOST 1048576: true; the input reads as it did. -/
def recentPlaysUptoRow : OpenClaim := { program := "ytjddjjfcongnlaa", sum := "80a543e8950620ccd57f75403ee7cb67db509f87e2dfc66fbe771f6edf70e2e9", func := "spindle/spindlelaw04.RecentPlays", spec := "recentPlays", unfollowed := true, recurses := true, plainKeys := false, apart := false, narrowed := true }
def RecentPlaysUptoSaid : Prop := recentPlaysUptoRow.holds Try.pinned (OpenSpec.upto recentPlaysSpec)

/-- 'spindlelaw04.RecentPairs', WHERE WHAT IT READS IS OF BULK AT MOST 1048576: true; the input reads as it did. -/
def recentPairsUptoRow : OpenClaim := { program := "ytjddjjfcongnlaa", sum := "80a543e8950620ccd57f75403ee7cb67db509f87e2dfc66fbe771f6edf70e2e9", func := "spindle/spindlelaw04.RecentPairs", spec := "recentPairs", unfollowed := true, recurses := true, plainKeys := false, apart := false, narrowed := true }
def RecentPairsUptoSaid : Prop := recentPairsUptoRow.holds Try.pinned (OpenSpec.upto recentPairsSpec)

/-- 'spindlelaw04.RecentRow', WHERE WHAT IT READS IS OF BULK AT MOST 1048576: true; the input reads as it did. -/
def recentRowUptoRow : OpenClaim := { program := "ytjddjjfcongnlaa", sum := "80a543e8950620ccd57f75403ee7cb67db509f87e2dfc66fbe771f6edf70e2e9", func := "spindle/spindlelaw04.RecentRow", spec := "recentRow", unfollowed := true, recurses := true, plainKeys := false, apart := false, narrowed := true }
def RecentRowUptoSaid : Prop := recentRowUptoRow.holds Try.pinned (OpenSpec.upto recentRowSpec)

/-- 'spindlelaw04.RecentApart', WHERE WHAT IT READS IS OF BULK AT MOST 1048576: true; the input reads as it did. -/
def recentApartUptoRow : OpenClaim := { program := "ytjddjjfcongnlaa", sum := "80a543e8950620ccd57f75403ee7cb67db509f87e2dfc66fbe771f6edf70e2e9", func := "spindle/spindlelaw04.RecentApart", spec := "recentApart", unfollowed := true, recurses := true, plainKeys := false, apart := false, narrowed := true }
def RecentApartUptoSaid : Prop := recentApartUptoRow.holds Try.pinned (OpenSpec.upto recentApartSpec)

/-- 'spindlelaw04.RecentNobody', WHERE WHAT IT READS IS OF BULK AT MOST 1048576: true; the input reads as it did. -/
def recentNobodyUptoRow : OpenClaim := { program := "ytjddjjfcongnlaa", sum := "80a543e8950620ccd57f75403ee7cb67db509f87e2dfc66fbe771f6edf70e2e9", func := "spindle/spindlelaw04.RecentNobody", spec := "recentNobody", unfollowed := true, recurses := true, plainKeys := false, apart := false, narrowed := true }
def RecentNobodyUptoSaid : Prop := recentNobodyUptoRow.holds Try.pinned (OpenSpec.upto recentNobodySpec)

end Rows
end Go.Proofs.Ytjddjjfcongnlaa
