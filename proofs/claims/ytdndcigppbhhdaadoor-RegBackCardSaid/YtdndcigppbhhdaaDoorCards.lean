/-
  DERIVED. GIVEN WITH THE SEED: THE CARDS: each row of YtdndcigppbhhdaaDoorRows.lean that lists a variable, with what it lists TIED to the program's text (the seventh form; the later family's looks); each row that meets fmt, with fmt's text TOLD by the authors' own Lean function (tested against real Go, not proved from fmt's source: count such statements apart). THE CARD IS WHAT COUNTS. Prove the row's statement (the work); the ties are given (YtdndcigppbhhdaaDoorTie.lean); close each card by the builder's one call (the guide's Derived/Test/ToyasCard.lean, 'card_holds'). Laid BY PROGRAM, IN A SANDBOX (cutbox-door.mjs). By AI agents, Wed Nov 11 2026. No macro, syntax, notation, axiom, sorry.
-/
import Derived.Test.YtdndcigppbhhdaaDoorRows
import GoSem.ClaimSeven
namespace Go.Proofs.YtdndcigppbhhdaaDoor
namespace Rows

/-- THE TIED CARD OF 'linotypelaw03.RegKnown'. -/
def regKnownCard : Claim7 := { stood := { row := regKnownRow, standIns := [], harness := (true, "e99c2649b5721d0c6bbaca1b3a52598c08a0246e59bb44c8aced930d5b374aa4"), looks := false }, kinds := [], alts := [], laidByText := true, laidKinds := [.listed, .data], laidTests := true, laidLooks := .later }
def RegKnownCardSaid : Prop := Claim7.holds Tryd.pinned (.plain (OpenSpec.ofChange regKnownSpec)) regKnownCard

/-- THE TIED CARD OF 'linotypelaw03.RegBack'. -/
def regBackCard : Claim7 := { stood := { row := regBackRow, standIns := [], harness := (true, "e99c2649b5721d0c6bbaca1b3a52598c08a0246e59bb44c8aced930d5b374aa4"), looks := false }, kinds := [], alts := [], laidByText := true, laidKinds := [.listed, .data], laidTests := true, laidLooks := .later }
def RegBackCardSaid : Prop := Claim7.holds Tryd.pinned (.plain (OpenSpec.ofChange regBackSpec)) regBackCard

/-- THE TIED CARD OF 'linotypelaw03.RegApart'. -/
def regApartCard : Claim7 := { stood := { row := regApartRow, standIns := [], harness := (true, "e99c2649b5721d0c6bbaca1b3a52598c08a0246e59bb44c8aced930d5b374aa4"), looks := false }, kinds := [], alts := [], laidByText := true, laidKinds := [.listed, .data], laidTests := true, laidLooks := .later }
def RegApartCardSaid : Prop := Claim7.holds Tryd.pinned (.plain (OpenSpec.ofChange regApartSpec)) regApartCard

/-- THE TIED CARD OF 'linotypelaw02.LiteralTells'. -/
def literalTellsCard : Claim7 := { stood := { row := literalTellsRow, standIns := [], harness := (true, "e99c2649b5721d0c6bbaca1b3a52598c08a0246e59bb44c8aced930d5b374aa4"), looks := false }, kinds := [], alts := [], laidByText := true, laidKinds := [.data, .data, .data], laidTests := true, laidLooks := .later }
def LiteralTellsCardSaid : Prop := Claim7.holds Tryd.pinned (.plain (OpenSpec.ofChange literalTellsSpec)) literalTellsCard

/-- THE TIED CARD OF 'linotypelaw02.LiteralBack'. -/
def literalBackCard : Claim7 := { stood := { row := literalBackRow, standIns := [], harness := (true, "e99c2649b5721d0c6bbaca1b3a52598c08a0246e59bb44c8aced930d5b374aa4"), looks := false }, kinds := [], alts := [], laidByText := true, laidKinds := [.data, .data, .data], laidTests := true, laidLooks := .later }
def LiteralBackCardSaid : Prop := Claim7.holds Tryd.pinned (.plain (OpenSpec.ofChange literalBackSpec)) literalBackCard

/-- THE TIED CARD OF 'linotypelaw02.LiteralSpelled'. -/
def literalSpelledCard : Claim7 := { stood := { row := literalSpelledRow, standIns := [], harness := (true, "e99c2649b5721d0c6bbaca1b3a52598c08a0246e59bb44c8aced930d5b374aa4"), looks := false }, kinds := [], alts := [], laidByText := true, laidKinds := [.data, .data, .data], laidTests := true, laidLooks := .later }
def LiteralSpelledCardSaid : Prop := Claim7.holds Tryd.pinned (.plain (OpenSpec.ofChange literalSpelledSpec)) literalSpelledCard

/-- THE TIED CARD OF 'linotypelaw02.LiteralBytes'. -/
def literalBytesCard : Claim7 := { stood := { row := literalBytesRow, standIns := [], harness := (true, "e99c2649b5721d0c6bbaca1b3a52598c08a0246e59bb44c8aced930d5b374aa4"), looks := false }, kinds := [], alts := [], laidByText := true, laidKinds := [.data, .data, .data], laidTests := true, laidLooks := .later }
def LiteralBytesCardSaid : Prop := Claim7.holds Tryd.pinned (.plain (OpenSpec.ofChange literalBytesSpec)) literalBytesCard

/-- THE TIED CARD OF 'linotypelaw02.LiteralKnown'. -/
def literalKnownCard : Claim7 := { stood := { row := literalKnownRow, standIns := [], harness := (true, "e99c2649b5721d0c6bbaca1b3a52598c08a0246e59bb44c8aced930d5b374aa4"), looks := false }, kinds := [], alts := [], laidByText := true, laidKinds := [.data, .data, .data], laidTests := true, laidLooks := .later }
def LiteralKnownCardSaid : Prop := Claim7.holds Tryd.pinned (.plain (OpenSpec.ofChange literalKnownSpec)) literalKnownCard

/-- THE TIED CARD OF 'linotypelaw03.RegTells'. -/
def regTellsCard : Claim7 := { stood := { row := regTellsRow, standIns := [], harness := (true, "e99c2649b5721d0c6bbaca1b3a52598c08a0246e59bb44c8aced930d5b374aa4"), looks := false }, kinds := [], alts := [], laidByText := true, laidKinds := [.data, .data, .data, .listed, .data], laidTests := true, laidLooks := .later }
def RegTellsCardSaid : Prop := Claim7.holds Tryd.pinned (.plain (OpenSpec.ofChange regTellsSpec)) regTellsCard

/-- THE SECOND FORM's CARD OF 'linotypelaw03.RegKnown'. -/
def regKnownUptoCard : Claim7 := { stood := { row := regKnownUptoRow, standIns := [], harness := (true, "e99c2649b5721d0c6bbaca1b3a52598c08a0246e59bb44c8aced930d5b374aa4"), looks := false }, kinds := [], alts := [], laidByText := true, laidKinds := [.listed, .data], laidTests := true, laidLooks := .later }
def RegKnownUptoCardSaid : Prop := Claim7.holds Tryd.pinned (.plain (OpenSpec.upto regKnownSpec)) regKnownUptoCard

/-- THE SECOND FORM's CARD OF 'linotypelaw03.RegBack'. -/
def regBackUptoCard : Claim7 := { stood := { row := regBackUptoRow, standIns := [], harness := (true, "e99c2649b5721d0c6bbaca1b3a52598c08a0246e59bb44c8aced930d5b374aa4"), looks := false }, kinds := [], alts := [], laidByText := true, laidKinds := [.listed, .data], laidTests := true, laidLooks := .later }
def RegBackUptoCardSaid : Prop := Claim7.holds Tryd.pinned (.plain (OpenSpec.upto regBackSpec)) regBackUptoCard

/-- THE SECOND FORM's CARD OF 'linotypelaw03.RegApart'. -/
def regApartUptoCard : Claim7 := { stood := { row := regApartUptoRow, standIns := [], harness := (true, "e99c2649b5721d0c6bbaca1b3a52598c08a0246e59bb44c8aced930d5b374aa4"), looks := false }, kinds := [], alts := [], laidByText := true, laidKinds := [.listed, .data], laidTests := true, laidLooks := .later }
def RegApartUptoCardSaid : Prop := Claim7.holds Tryd.pinned (.plain (OpenSpec.upto regApartSpec)) regApartUptoCard

/-- THE SECOND FORM's CARD OF 'linotypelaw02.LiteralTells'. -/
def literalTellsUptoCard : Claim7 := { stood := { row := literalTellsUptoRow, standIns := [], harness := (true, "e99c2649b5721d0c6bbaca1b3a52598c08a0246e59bb44c8aced930d5b374aa4"), looks := false }, kinds := [], alts := [], laidByText := true, laidKinds := [.data, .data, .data], laidTests := true, laidLooks := .later }
def LiteralTellsUptoCardSaid : Prop := Claim7.holds Tryd.pinned (.plain (OpenSpec.upto literalTellsSpec)) literalTellsUptoCard

/-- THE SECOND FORM's CARD OF 'linotypelaw02.LiteralBack'. -/
def literalBackUptoCard : Claim7 := { stood := { row := literalBackUptoRow, standIns := [], harness := (true, "e99c2649b5721d0c6bbaca1b3a52598c08a0246e59bb44c8aced930d5b374aa4"), looks := false }, kinds := [], alts := [], laidByText := true, laidKinds := [.data, .data, .data], laidTests := true, laidLooks := .later }
def LiteralBackUptoCardSaid : Prop := Claim7.holds Tryd.pinned (.plain (OpenSpec.upto literalBackSpec)) literalBackUptoCard

/-- THE SECOND FORM's CARD OF 'linotypelaw02.LiteralSpelled'. -/
def literalSpelledUptoCard : Claim7 := { stood := { row := literalSpelledUptoRow, standIns := [], harness := (true, "e99c2649b5721d0c6bbaca1b3a52598c08a0246e59bb44c8aced930d5b374aa4"), looks := false }, kinds := [], alts := [], laidByText := true, laidKinds := [.data, .data, .data], laidTests := true, laidLooks := .later }
def LiteralSpelledUptoCardSaid : Prop := Claim7.holds Tryd.pinned (.plain (OpenSpec.upto literalSpelledSpec)) literalSpelledUptoCard

/-- THE SECOND FORM's CARD OF 'linotypelaw02.LiteralBytes'. -/
def literalBytesUptoCard : Claim7 := { stood := { row := literalBytesUptoRow, standIns := [], harness := (true, "e99c2649b5721d0c6bbaca1b3a52598c08a0246e59bb44c8aced930d5b374aa4"), looks := false }, kinds := [], alts := [], laidByText := true, laidKinds := [.data, .data, .data], laidTests := true, laidLooks := .later }
def LiteralBytesUptoCardSaid : Prop := Claim7.holds Tryd.pinned (.plain (OpenSpec.upto literalBytesSpec)) literalBytesUptoCard

/-- THE SECOND FORM's CARD OF 'linotypelaw02.LiteralKnown'. -/
def literalKnownUptoCard : Claim7 := { stood := { row := literalKnownUptoRow, standIns := [], harness := (true, "e99c2649b5721d0c6bbaca1b3a52598c08a0246e59bb44c8aced930d5b374aa4"), looks := false }, kinds := [], alts := [], laidByText := true, laidKinds := [.data, .data, .data], laidTests := true, laidLooks := .later }
def LiteralKnownUptoCardSaid : Prop := Claim7.holds Tryd.pinned (.plain (OpenSpec.upto literalKnownSpec)) literalKnownUptoCard

/-- THE SECOND FORM's CARD OF 'linotypelaw03.RegTells'. -/
def regTellsUptoCard : Claim7 := { stood := { row := regTellsUptoRow, standIns := [], harness := (true, "e99c2649b5721d0c6bbaca1b3a52598c08a0246e59bb44c8aced930d5b374aa4"), looks := false }, kinds := [], alts := [], laidByText := true, laidKinds := [.data, .data, .data, .listed, .data], laidTests := true, laidLooks := .later }
def RegTellsUptoCardSaid : Prop := Claim7.holds Tryd.pinned (.plain (OpenSpec.upto regTellsSpec)) regTellsUptoCard
end Rows
end Go.Proofs.YtdndcigppbhhdaaDoor
