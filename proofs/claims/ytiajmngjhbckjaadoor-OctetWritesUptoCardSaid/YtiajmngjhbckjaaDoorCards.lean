/-
  DERIVED. GIVEN WITH THE SEED: THE CARDS: each row of YtiajmngjhbckjaaDoorRows.lean that lists a variable, with what it lists TIED to the program's text (the seventh form; the later family's looks); each row that meets fmt, with fmt's text TOLD by the authors' own Lean function (tested against real Go, not proved from fmt's source: count such statements apart). THE CARD IS WHAT COUNTS. Prove the row's statement (the work); the ties are given (YtiajmngjhbckjaaDoorTie.lean); close each card by the builder's one call (the guide's Derived/Test/ToyasCard.lean, 'card_holds'). Laid BY PROGRAM, IN A SANDBOX (cutbox-door.mjs). By AI agents, Wed Nov 11 2026. No macro, syntax, notation, axiom, sorry.
-/
import Derived.Test.YtiajmngjhbckjaaDoorRows
import GoSem.ClaimSeven
namespace Go.Proofs.YtiajmngjhbckjaaDoor
namespace Rows

/-- THE TIED CARD OF 'spindlelaw01.OctetPlain'. -/
def octetPlainCard : Claim7 := { stood := { row := octetPlainRow, standIns := [], harness := (true, "ea0aea1e5a1dfe5be15c6058d1f3012d193a6a7ac511e5b598512ae209d22bc2"), looks := false }, kinds := [], alts := [], laidByText := true, laidKinds := [.data, .pinned], laidTests := true, laidLooks := .later }
def OctetPlainCardSaid : Prop := Claim7.holds Tryd.pinned (.plain (OpenSpec.ofChange octetPlainSpec)) octetPlainCard

/-- THE TIED CARD OF 'spindlelaw01.OctetWrites'. -/
def octetWritesCard : Claim7 := { stood := { row := octetWritesRow, standIns := [], harness := (true, "ea0aea1e5a1dfe5be15c6058d1f3012d193a6a7ac511e5b598512ae209d22bc2"), looks := false }, kinds := [], alts := [], laidByText := true, laidKinds := [.data, .pinned], laidTests := true, laidLooks := .later }
def OctetWritesCardSaid : Prop := Claim7.holds Tryd.pinned (.plain (OpenSpec.ofChange octetWritesSpec)) octetWritesCard

/-- THE TIED CARD OF 'spindlelaw01.OctetReads'. -/
def octetReadsCard : Claim7 := { stood := { row := octetReadsRow, standIns := [], harness := (true, "ea0aea1e5a1dfe5be15c6058d1f3012d193a6a7ac511e5b598512ae209d22bc2"), looks := false }, kinds := [], alts := [], laidByText := true, laidKinds := [.data, .pinned], laidTests := true, laidLooks := .later }
def OctetReadsCardSaid : Prop := Claim7.holds Tryd.pinned (.plain (OpenSpec.ofChange octetReadsSpec)) octetReadsCard

/-- THE TIED CARD OF 'spindlelaw01.OctetBack'. -/
def octetBackCard : Claim7 := { stood := { row := octetBackRow, standIns := [], harness := (true, "ea0aea1e5a1dfe5be15c6058d1f3012d193a6a7ac511e5b598512ae209d22bc2"), looks := false }, kinds := [], alts := [], laidByText := true, laidKinds := [.data, .pinned], laidTests := true, laidLooks := .later }
def OctetBackCardSaid : Prop := Claim7.holds Tryd.pinned (.plain (OpenSpec.ofChange octetBackSpec)) octetBackCard

/-- THE TIED CARD OF 'spindlelaw01.OctetApart'. -/
def octetApartCard : Claim7 := { stood := { row := octetApartRow, standIns := [], harness := (true, "ea0aea1e5a1dfe5be15c6058d1f3012d193a6a7ac511e5b598512ae209d22bc2"), looks := false }, kinds := [], alts := [], laidByText := true, laidKinds := [.data, .pinned], laidTests := true, laidLooks := .later }
def OctetApartCardSaid : Prop := Claim7.holds Tryd.pinned (.plain (OpenSpec.ofChange octetApartSpec)) octetApartCard

/-- THE TIED CARD OF 'spindlelaw01.OctetNobody'. -/
def octetNobodyCard : Claim7 := { stood := { row := octetNobodyRow, standIns := [], harness := (true, "ea0aea1e5a1dfe5be15c6058d1f3012d193a6a7ac511e5b598512ae209d22bc2"), looks := false }, kinds := [], alts := [], laidByText := true, laidKinds := [.data, .pinned], laidTests := true, laidLooks := .later }
def OctetNobodyCardSaid : Prop := Claim7.holds Tryd.pinned (.plain (OpenSpec.ofChange octetNobodySpec)) octetNobodyCard

/-- THE TIED CARD OF 'spindlelaw01.OctetNumbers'. -/
def octetNumbersCard : Claim7 := { stood := { row := octetNumbersRow, standIns := [], harness := (true, "ea0aea1e5a1dfe5be15c6058d1f3012d193a6a7ac511e5b598512ae209d22bc2"), looks := false }, kinds := [], alts := [], laidByText := true, laidKinds := [.data, .data, .data], laidTests := true, laidLooks := .later }
def OctetNumbersCardSaid : Prop := Claim7.holds Tryd.pinned (.plain (OpenSpec.ofChange octetNumbersSpec)) octetNumbersCard

/-- THE SECOND FORM's CARD OF 'spindlelaw01.OctetPlain'. -/
def octetPlainUptoCard : Claim7 := { stood := { row := octetPlainUptoRow, standIns := [], harness := (true, "ea0aea1e5a1dfe5be15c6058d1f3012d193a6a7ac511e5b598512ae209d22bc2"), looks := false }, kinds := [], alts := [], laidByText := true, laidKinds := [.data, .pinned], laidTests := true, laidLooks := .later }
def OctetPlainUptoCardSaid : Prop := Claim7.holds Tryd.pinned (.plain (OpenSpec.upto octetPlainSpec)) octetPlainUptoCard

/-- THE SECOND FORM's CARD OF 'spindlelaw01.OctetWrites'. -/
def octetWritesUptoCard : Claim7 := { stood := { row := octetWritesUptoRow, standIns := [], harness := (true, "ea0aea1e5a1dfe5be15c6058d1f3012d193a6a7ac511e5b598512ae209d22bc2"), looks := false }, kinds := [], alts := [], laidByText := true, laidKinds := [.data, .pinned], laidTests := true, laidLooks := .later }
def OctetWritesUptoCardSaid : Prop := Claim7.holds Tryd.pinned (.plain (OpenSpec.upto octetWritesSpec)) octetWritesUptoCard

/-- THE SECOND FORM's CARD OF 'spindlelaw01.OctetReads'. -/
def octetReadsUptoCard : Claim7 := { stood := { row := octetReadsUptoRow, standIns := [], harness := (true, "ea0aea1e5a1dfe5be15c6058d1f3012d193a6a7ac511e5b598512ae209d22bc2"), looks := false }, kinds := [], alts := [], laidByText := true, laidKinds := [.data, .pinned], laidTests := true, laidLooks := .later }
def OctetReadsUptoCardSaid : Prop := Claim7.holds Tryd.pinned (.plain (OpenSpec.upto octetReadsSpec)) octetReadsUptoCard

/-- THE SECOND FORM's CARD OF 'spindlelaw01.OctetBack'. -/
def octetBackUptoCard : Claim7 := { stood := { row := octetBackUptoRow, standIns := [], harness := (true, "ea0aea1e5a1dfe5be15c6058d1f3012d193a6a7ac511e5b598512ae209d22bc2"), looks := false }, kinds := [], alts := [], laidByText := true, laidKinds := [.data, .pinned], laidTests := true, laidLooks := .later }
def OctetBackUptoCardSaid : Prop := Claim7.holds Tryd.pinned (.plain (OpenSpec.upto octetBackSpec)) octetBackUptoCard

/-- THE SECOND FORM's CARD OF 'spindlelaw01.OctetApart'. -/
def octetApartUptoCard : Claim7 := { stood := { row := octetApartUptoRow, standIns := [], harness := (true, "ea0aea1e5a1dfe5be15c6058d1f3012d193a6a7ac511e5b598512ae209d22bc2"), looks := false }, kinds := [], alts := [], laidByText := true, laidKinds := [.data, .pinned], laidTests := true, laidLooks := .later }
def OctetApartUptoCardSaid : Prop := Claim7.holds Tryd.pinned (.plain (OpenSpec.upto octetApartSpec)) octetApartUptoCard

/-- THE SECOND FORM's CARD OF 'spindlelaw01.OctetNobody'. -/
def octetNobodyUptoCard : Claim7 := { stood := { row := octetNobodyUptoRow, standIns := [], harness := (true, "ea0aea1e5a1dfe5be15c6058d1f3012d193a6a7ac511e5b598512ae209d22bc2"), looks := false }, kinds := [], alts := [], laidByText := true, laidKinds := [.data, .pinned], laidTests := true, laidLooks := .later }
def OctetNobodyUptoCardSaid : Prop := Claim7.holds Tryd.pinned (.plain (OpenSpec.upto octetNobodySpec)) octetNobodyUptoCard

/-- THE SECOND FORM's CARD OF 'spindlelaw01.OctetNumbers'. -/
def octetNumbersUptoCard : Claim7 := { stood := { row := octetNumbersUptoRow, standIns := [], harness := (true, "ea0aea1e5a1dfe5be15c6058d1f3012d193a6a7ac511e5b598512ae209d22bc2"), looks := false }, kinds := [], alts := [], laidByText := true, laidKinds := [.data, .data, .data], laidTests := true, laidLooks := .later }
def OctetNumbersUptoCardSaid : Prop := Claim7.holds Tryd.pinned (.plain (OpenSpec.upto octetNumbersSpec)) octetNumbersUptoCard
end Rows
end Go.Proofs.YtiajmngjhbckjaaDoor
