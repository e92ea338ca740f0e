/-
  DERIVED. GIVEN WITH THE SEED: THE CARDS: each row of YtmjdfchplidbgaaDoorRows.lean that lists a variable, with what it lists TIED to the program's text (the seventh form; the later family's looks); each row that meets fmt, with fmt's text TOLD by the authors' own Lean function (tested against real Go, not proved from fmt's source: count such statements apart). THE CARD IS WHAT COUNTS. Prove the row's statement (the work); the ties are given (YtmjdfchplidbgaaDoorTie.lean); close each card by the builder's one call (the guide's Derived/Test/ToyasCard.lean, 'card_holds'). Laid BY PROGRAM, IN A SANDBOX (cutbox-door.mjs). By AI agents, Wed Nov 11 2026. No macro, syntax, notation, axiom, sorry.
-/
import Derived.Test.YtmjdfchplidbgaaDoorRows
import GoSem.ClaimSeven
namespace Go.Proofs.YtmjdfchplidbgaaDoor
namespace Rows

/-- THE TIED CARD OF 'amphoralaw01.GaloisField'. -/
def galoisFieldCard : Claim7 := { stood := { row := galoisFieldRow, standIns := [], harness := (true, "a21be744c7967452b65c6bc3697faad3cef73e3dbea7474f7750eb3e33190d48"), looks := false }, kinds := [], alts := [], laidByText := true, laidKinds := [.data], laidTests := true, laidLooks := .later }
def GaloisFieldCardSaid : Prop := Claim7.holds Tryd.pinned (.plain (OpenSpec.ofChange galoisFieldSpec)) galoisFieldCard

/-- THE TIED CARD OF 'amphoralaw01.GaloisQuotients'. -/
def galoisQuotientsCard : Claim7 := { stood := { row := galoisQuotientsRow, standIns := [], harness := (true, "a21be744c7967452b65c6bc3697faad3cef73e3dbea7474f7750eb3e33190d48"), looks := false }, kinds := [], alts := [], laidByText := true, laidKinds := [.data], laidTests := true, laidLooks := .later }
def GaloisQuotientsCardSaid : Prop := Claim7.holds Tryd.pinned (.plain (OpenSpec.ofChange galoisQuotientsSpec)) galoisQuotientsCard

/-- THE TIED CARD OF 'amphoralaw01.GaloisTells'. -/
def galoisTellsCard : Claim7 := { stood := { row := galoisTellsRow, standIns := [], harness := (true, "a21be744c7967452b65c6bc3697faad3cef73e3dbea7474f7750eb3e33190d48"), looks := false }, kinds := [], alts := [], laidByText := true, laidKinds := [.data], laidTests := true, laidLooks := .later }
def GaloisTellsCardSaid : Prop := Claim7.holds Tryd.pinned (.plain (OpenSpec.ofChange galoisTellsSpec)) galoisTellsCard

/-- THE TIED CARD OF 'amphoralaw01.GaloisPows'. -/
def galoisPowsCard : Claim7 := { stood := { row := galoisPowsRow, standIns := [], harness := (true, "a21be744c7967452b65c6bc3697faad3cef73e3dbea7474f7750eb3e33190d48"), looks := false }, kinds := [], alts := [], laidByText := true, laidKinds := [.data], laidTests := true, laidLooks := .later }
def GaloisPowsCardSaid : Prop := Claim7.holds Tryd.pinned (.plain (OpenSpec.ofChange galoisPowsSpec)) galoisPowsCard

/-- THE TIED CARD OF 'amphoralaw01.GaloisSquares'. -/
def galoisSquaresCard : Claim7 := { stood := { row := galoisSquaresRow, standIns := [], harness := (true, "a21be744c7967452b65c6bc3697faad3cef73e3dbea7474f7750eb3e33190d48"), looks := false }, kinds := [], alts := [], laidByText := true, laidKinds := [.data], laidTests := true, laidLooks := .later }
def GaloisSquaresCardSaid : Prop := Claim7.holds Tryd.pinned (.plain (OpenSpec.ofChange galoisSquaresSpec)) galoisSquaresCard

/-- THE TIED CARD OF 'amphoralaw01.GaloisExp'. -/
def galoisExpCard : Claim7 := { stood := { row := galoisExpRow, standIns := [], harness := (true, "a21be744c7967452b65c6bc3697faad3cef73e3dbea7474f7750eb3e33190d48"), looks := false }, kinds := [], alts := [], laidByText := true, laidKinds := [.data], laidTests := true, laidLooks := .later }
def GaloisExpCardSaid : Prop := Claim7.holds Tryd.pinned (.plain (OpenSpec.ofChange galoisExpSpec)) galoisExpCard

/-- THE TIED CARD OF 'amphoralaw01.GaloisPowers'. -/
def galoisPowersCard : Claim7 := { stood := { row := galoisPowersRow, standIns := [], harness := (true, "a21be744c7967452b65c6bc3697faad3cef73e3dbea7474f7750eb3e33190d48"), looks := false }, kinds := [], alts := [], laidByText := true, laidKinds := [.data], laidTests := true, laidLooks := .later }
def GaloisPowersCardSaid : Prop := Claim7.holds Tryd.pinned (.plain (OpenSpec.ofChange galoisPowersSpec)) galoisPowersCard

/-- THE SECOND FORM's CARD OF 'amphoralaw01.GaloisField'. -/
def galoisFieldUptoCard : Claim7 := { stood := { row := galoisFieldUptoRow, standIns := [], harness := (true, "a21be744c7967452b65c6bc3697faad3cef73e3dbea7474f7750eb3e33190d48"), looks := false }, kinds := [], alts := [], laidByText := true, laidKinds := [.data], laidTests := true, laidLooks := .later }
def GaloisFieldUptoCardSaid : Prop := Claim7.holds Tryd.pinned (.plain (OpenSpec.upto galoisFieldSpec)) galoisFieldUptoCard

/-- THE SECOND FORM's CARD OF 'amphoralaw01.GaloisQuotients'. -/
def galoisQuotientsUptoCard : Claim7 := { stood := { row := galoisQuotientsUptoRow, standIns := [], harness := (true, "a21be744c7967452b65c6bc3697faad3cef73e3dbea7474f7750eb3e33190d48"), looks := false }, kinds := [], alts := [], laidByText := true, laidKinds := [.data], laidTests := true, laidLooks := .later }
def GaloisQuotientsUptoCardSaid : Prop := Claim7.holds Tryd.pinned (.plain (OpenSpec.upto galoisQuotientsSpec)) galoisQuotientsUptoCard

/-- THE SECOND FORM's CARD OF 'amphoralaw01.GaloisTells'. -/
def galoisTellsUptoCard : Claim7 := { stood := { row := galoisTellsUptoRow, standIns := [], harness := (true, "a21be744c7967452b65c6bc3697faad3cef73e3dbea7474f7750eb3e33190d48"), looks := false }, kinds := [], alts := [], laidByText := true, laidKinds := [.data], laidTests := true, laidLooks := .later }
def GaloisTellsUptoCardSaid : Prop := Claim7.holds Tryd.pinned (.plain (OpenSpec.upto galoisTellsSpec)) galoisTellsUptoCard

/-- THE SECOND FORM's CARD OF 'amphoralaw01.GaloisPows'. -/
def galoisPowsUptoCard : Claim7 := { stood := { row := galoisPowsUptoRow, standIns := [], harness := (true, "a21be744c7967452b65c6bc3697faad3cef73e3dbea7474f7750eb3e33190d48"), looks := false }, kinds := [], alts := [], laidByText := true, laidKinds := [.data], laidTests := true, laidLooks := .later }
def GaloisPowsUptoCardSaid : Prop := Claim7.holds Tryd.pinned (.plain (OpenSpec.upto galoisPowsSpec)) galoisPowsUptoCard

/-- THE SECOND FORM's CARD OF 'amphoralaw01.GaloisSquares'. -/
def galoisSquaresUptoCard : Claim7 := { stood := { row := galoisSquaresUptoRow, standIns := [], harness := (true, "a21be744c7967452b65c6bc3697faad3cef73e3dbea7474f7750eb3e33190d48"), looks := false }, kinds := [], alts := [], laidByText := true, laidKinds := [.data], laidTests := true, laidLooks := .later }
def GaloisSquaresUptoCardSaid : Prop := Claim7.holds Tryd.pinned (.plain (OpenSpec.upto galoisSquaresSpec)) galoisSquaresUptoCard

/-- THE SECOND FORM's CARD OF 'amphoralaw01.GaloisExp'. -/
def galoisExpUptoCard : Claim7 := { stood := { row := galoisExpUptoRow, standIns := [], harness := (true, "a21be744c7967452b65c6bc3697faad3cef73e3dbea7474f7750eb3e33190d48"), looks := false }, kinds := [], alts := [], laidByText := true, laidKinds := [.data], laidTests := true, laidLooks := .later }
def GaloisExpUptoCardSaid : Prop := Claim7.holds Tryd.pinned (.plain (OpenSpec.upto galoisExpSpec)) galoisExpUptoCard

/-- THE SECOND FORM's CARD OF 'amphoralaw01.GaloisPowers'. -/
def galoisPowersUptoCard : Claim7 := { stood := { row := galoisPowersUptoRow, standIns := [], harness := (true, "a21be744c7967452b65c6bc3697faad3cef73e3dbea7474f7750eb3e33190d48"), looks := false }, kinds := [], alts := [], laidByText := true, laidKinds := [.data], laidTests := true, laidLooks := .later }
def GaloisPowersUptoCardSaid : Prop := Claim7.holds Tryd.pinned (.plain (OpenSpec.upto galoisPowersSpec)) galoisPowersUptoCard
end Rows
end Go.Proofs.YtmjdfchplidbgaaDoor
