/-
  DERIVED. GIVEN WITH THE SEED: THE CARDS: each row of YtaikapgpkkpdjaaDoorRows.lean that lists a variable, with what it lists TIED to the program's text (the seventh form; the later family's looks); each row that meets fmt, with fmt's text TOLD by the authors' own Lean function (tested against real Go, not proved from fmt's source: count such statements apart). THE CARD IS WHAT COUNTS. Prove the row's statement (the work); the ties are given (YtaikapgpkkpdjaaDoorTie.lean); close each card by the builder's one call (the guide's Derived/Test/ToyasCard.lean, 'card_holds'). Laid BY PROGRAM, IN A SANDBOX (cutbox-door.mjs). By AI agents, Wed Nov 11 2026. No macro, syntax, notation, axiom, sorry.
-/
import Derived.Test.YtaikapgpkkpdjaaDoorRows
import GoSem.ClaimSeven
namespace Go.Proofs.YtaikapgpkkpdjaaDoor
namespace Rows

/-- THE TIED CARD OF 'platenlaw22.SlotsPlays'. -/
def slotsPlaysCard : Claim7 := { stood := { row := slotsPlaysRow, standIns := [], harness := (true, "5856db9f6d5832e66f2662b8389171780ebe3ab55ffc9826a36358a548488af7"), looks := false }, kinds := [], alts := [], laidByText := true, laidKinds := [.data], laidTests := true, laidLooks := .later }
def SlotsPlaysCardSaid : Prop := Claim7.holds Tryd.pinned (.plain (OpenSpec.ofChange slotsPlaysSpec)) slotsPlaysCard

/-- THE TIED CARD OF 'platenlaw22.SlotsApart'. -/
def slotsApartCard : Claim7 := { stood := { row := slotsApartRow, standIns := [], harness := (true, "5856db9f6d5832e66f2662b8389171780ebe3ab55ffc9826a36358a548488af7"), looks := false }, kinds := [], alts := [], laidByText := true, laidKinds := [.data], laidTests := true, laidLooks := .later }
def SlotsApartCardSaid : Prop := Claim7.holds Tryd.pinned (.plain (OpenSpec.ofChange slotsApartSpec)) slotsApartCard

/-- THE TIED CARD OF 'platenlaw22.SlotsWait'. -/
def slotsWaitCard : Claim7 := { stood := { row := slotsWaitRow, standIns := [], harness := (true, "5856db9f6d5832e66f2662b8389171780ebe3ab55ffc9826a36358a548488af7"), looks := false }, kinds := [], alts := [], laidByText := true, laidKinds := [.data], laidTests := true, laidLooks := .later }
def SlotsWaitCardSaid : Prop := Claim7.holds Tryd.pinned (.plain (OpenSpec.ofChange slotsWaitSpec)) slotsWaitCard

/-- THE TIED CARD OF 'platenlaw22.SlotsNil'. -/
def slotsNilCard : Claim7 := { stood := { row := slotsNilRow, standIns := [], harness := (true, "5856db9f6d5832e66f2662b8389171780ebe3ab55ffc9826a36358a548488af7"), looks := false }, kinds := [], alts := [], laidByText := true, laidKinds := [.data], laidTests := true, laidLooks := .later }
def SlotsNilCardSaid : Prop := Claim7.holds Tryd.pinned (.plain (OpenSpec.ofChange slotsNilSpec)) slotsNilCard

/-- THE TIED CARD OF 'platenlaw22.SlotsBack'. -/
def slotsBackCard : Claim7 := { stood := { row := slotsBackRow, standIns := [], harness := (true, "5856db9f6d5832e66f2662b8389171780ebe3ab55ffc9826a36358a548488af7"), looks := false }, kinds := [], alts := [], laidByText := true, laidKinds := [.data], laidTests := true, laidLooks := .later }
def SlotsBackCardSaid : Prop := Claim7.holds Tryd.pinned (.plain (OpenSpec.ofChange slotsBackSpec)) slotsBackCard

/-- THE SECOND FORM's CARD OF 'platenlaw22.SlotsPlays'. -/
def slotsPlaysUptoCard : Claim7 := { stood := { row := slotsPlaysUptoRow, standIns := [], harness := (true, "5856db9f6d5832e66f2662b8389171780ebe3ab55ffc9826a36358a548488af7"), looks := false }, kinds := [], alts := [], laidByText := true, laidKinds := [.data], laidTests := true, laidLooks := .later }
def SlotsPlaysUptoCardSaid : Prop := Claim7.holds Tryd.pinned (.plain (OpenSpec.upto slotsPlaysSpec)) slotsPlaysUptoCard

/-- THE SECOND FORM's CARD OF 'platenlaw22.SlotsApart'. -/
def slotsApartUptoCard : Claim7 := { stood := { row := slotsApartUptoRow, standIns := [], harness := (true, "5856db9f6d5832e66f2662b8389171780ebe3ab55ffc9826a36358a548488af7"), looks := false }, kinds := [], alts := [], laidByText := true, laidKinds := [.data], laidTests := true, laidLooks := .later }
def SlotsApartUptoCardSaid : Prop := Claim7.holds Tryd.pinned (.plain (OpenSpec.upto slotsApartSpec)) slotsApartUptoCard

/-- THE SECOND FORM's CARD OF 'platenlaw22.SlotsWait'. -/
def slotsWaitUptoCard : Claim7 := { stood := { row := slotsWaitUptoRow, standIns := [], harness := (true, "5856db9f6d5832e66f2662b8389171780ebe3ab55ffc9826a36358a548488af7"), looks := false }, kinds := [], alts := [], laidByText := true, laidKinds := [.data], laidTests := true, laidLooks := .later }
def SlotsWaitUptoCardSaid : Prop := Claim7.holds Tryd.pinned (.plain (OpenSpec.upto slotsWaitSpec)) slotsWaitUptoCard

/-- THE SECOND FORM's CARD OF 'platenlaw22.SlotsNil'. -/
def slotsNilUptoCard : Claim7 := { stood := { row := slotsNilUptoRow, standIns := [], harness := (true, "5856db9f6d5832e66f2662b8389171780ebe3ab55ffc9826a36358a548488af7"), looks := false }, kinds := [], alts := [], laidByText := true, laidKinds := [.data], laidTests := true, laidLooks := .later }
def SlotsNilUptoCardSaid : Prop := Claim7.holds Tryd.pinned (.plain (OpenSpec.upto slotsNilSpec)) slotsNilUptoCard

/-- THE SECOND FORM's CARD OF 'platenlaw22.SlotsBack'. -/
def slotsBackUptoCard : Claim7 := { stood := { row := slotsBackUptoRow, standIns := [], harness := (true, "5856db9f6d5832e66f2662b8389171780ebe3ab55ffc9826a36358a548488af7"), looks := false }, kinds := [], alts := [], laidByText := true, laidKinds := [.data], laidTests := true, laidLooks := .later }
def SlotsBackUptoCardSaid : Prop := Claim7.holds Tryd.pinned (.plain (OpenSpec.upto slotsBackSpec)) slotsBackUptoCard
end Rows
end Go.Proofs.YtaikapgpkkpdjaaDoor
