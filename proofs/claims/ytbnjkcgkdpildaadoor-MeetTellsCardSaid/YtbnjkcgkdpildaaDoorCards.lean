/-
  DERIVED. GIVEN WITH THE SEED: THE CARDS: each row of YtbnjkcgkdpildaaDoorRows.lean that lists a variable, with what it lists TIED to the program's text (the seventh form; the later family's looks); each row that meets fmt, with fmt's text TOLD by the authors' own Lean function (tested against real Go, not proved from fmt's source: count such statements apart). THE CARD IS WHAT COUNTS. Prove the row's statement (the work); the ties are given (YtbnjkcgkdpildaaDoorTie.lean); close each card by the builder's one call (the guide's Derived/Test/ToyasCard.lean, 'card_holds'). Laid BY PROGRAM, IN A SANDBOX (cutbox-door.mjs). By AI agents, Wed Nov 11 2026. No macro, syntax, notation, axiom, sorry.
-/
import Derived.Test.YtbnjkcgkdpildaaDoorRows
import GoSem.ClaimSeven
namespace Go.Proofs.YtbnjkcgkdpildaaDoor
namespace Rows

/-- THE TIED CARD OF 'pitlaw4.KindsWhole'. -/
def kindsWholeCard : Claim7 := { stood := { row := kindsWholeRow, standIns := [], harness := (true, "fa88c1cd5a35748944c39b076ca9422715e8aaf6e739c9e5bd99bfee91f06db6"), looks := true }, kinds := [], alts := [], laidByText := true, laidKinds := [.handle], laidTests := true, laidLooks := .later }
def KindsWholeCardSaid : Prop := Claim7.holds Tryd.pinned (.plain (OpenSpec.ofChange kindsWholeSpec)) kindsWholeCard

/-- THE TIED CARD OF 'pitlaw4.BookApart'. -/
def bookApartCard : Claim7 := { stood := { row := bookApartRow, standIns := [], harness := (true, "fa88c1cd5a35748944c39b076ca9422715e8aaf6e739c9e5bd99bfee91f06db6"), looks := true }, kinds := [], alts := [], laidByText := true, laidKinds := [.handle], laidTests := true, laidLooks := .later }
def BookApartCardSaid : Prop := Claim7.holds Tryd.pinned (.plain (OpenSpec.ofChange bookApartSpec)) bookApartCard

/-- THE TIED CARD OF 'pitlaw4.SideSorts'. -/
def sideSortsCard : Claim7 := { stood := { row := sideSortsRow, standIns := [], harness := (true, "fa88c1cd5a35748944c39b076ca9422715e8aaf6e739c9e5bd99bfee91f06db6"), looks := true }, kinds := [], alts := [], laidByText := true, laidKinds := [.handle], laidTests := true, laidLooks := .later }
def SideSortsCardSaid : Prop := Claim7.holds Tryd.pinned (.plain (OpenSpec.ofChange sideSortsSpec)) sideSortsCard

/-- THE TIED CARD OF 'pitlaw1.MeetTells'. -/
def meetTellsCard : Claim7 := { stood := { row := meetTellsRow, standIns := [], harness := (true, "fa88c1cd5a35748944c39b076ca9422715e8aaf6e739c9e5bd99bfee91f06db6"), looks := true }, kinds := [], alts := [], laidByText := true, laidKinds := [.handle], laidTests := true, laidLooks := .later }
def MeetTellsCardSaid : Prop := Claim7.holds Tryd.pinned (.plain (OpenSpec.ofChange meetTellsSpec)) meetTellsCard

/-- THE SECOND FORM's CARD OF 'pitlaw4.KindsWhole'. -/
def kindsWholeUptoCard : Claim7 := { stood := { row := kindsWholeUptoRow, standIns := [], harness := (true, "fa88c1cd5a35748944c39b076ca9422715e8aaf6e739c9e5bd99bfee91f06db6"), looks := true }, kinds := [], alts := [], laidByText := true, laidKinds := [.handle], laidTests := true, laidLooks := .later }
def KindsWholeUptoCardSaid : Prop := Claim7.holds Tryd.pinned (.plain (OpenSpec.upto kindsWholeSpec)) kindsWholeUptoCard

/-- THE SECOND FORM's CARD OF 'pitlaw4.BookApart'. -/
def bookApartUptoCard : Claim7 := { stood := { row := bookApartUptoRow, standIns := [], harness := (true, "fa88c1cd5a35748944c39b076ca9422715e8aaf6e739c9e5bd99bfee91f06db6"), looks := true }, kinds := [], alts := [], laidByText := true, laidKinds := [.handle], laidTests := true, laidLooks := .later }
def BookApartUptoCardSaid : Prop := Claim7.holds Tryd.pinned (.plain (OpenSpec.upto bookApartSpec)) bookApartUptoCard

/-- THE SECOND FORM's CARD OF 'pitlaw4.SideSorts'. -/
def sideSortsUptoCard : Claim7 := { stood := { row := sideSortsUptoRow, standIns := [], harness := (true, "fa88c1cd5a35748944c39b076ca9422715e8aaf6e739c9e5bd99bfee91f06db6"), looks := true }, kinds := [], alts := [], laidByText := true, laidKinds := [.handle], laidTests := true, laidLooks := .later }
def SideSortsUptoCardSaid : Prop := Claim7.holds Tryd.pinned (.plain (OpenSpec.upto sideSortsSpec)) sideSortsUptoCard

/-- THE SECOND FORM's CARD OF 'pitlaw1.MeetTells'. -/
def meetTellsUptoCard : Claim7 := { stood := { row := meetTellsUptoRow, standIns := [], harness := (true, "fa88c1cd5a35748944c39b076ca9422715e8aaf6e739c9e5bd99bfee91f06db6"), looks := true }, kinds := [], alts := [], laidByText := true, laidKinds := [.handle], laidTests := true, laidLooks := .later }
def MeetTellsUptoCardSaid : Prop := Claim7.holds Tryd.pinned (.plain (OpenSpec.upto meetTellsSpec)) meetTellsUptoCard
end Rows
end Go.Proofs.YtbnjkcgkdpildaaDoor
