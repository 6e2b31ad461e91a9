/-
  DERIVED. GIVEN WITH THE SEED: THE CARDS: each row of YtlnemkdoknkhaaaDoorRows.lean that lists a variable, with what it lists TIED to the program's text (the seventh form; the later family's looks); each row that meets fmt, with fmt's text TOLD by the authors' own Lean function (tested against real Go, not proved from fmt's source: count such statements apart). THE CARD IS WHAT COUNTS. Prove the row's statement (the work); the ties are given (YtlnemkdoknkhaaaDoorTie.lean); close each card by the builder's one call (the guide's Derived/Test/ToyasCard.lean, 'card_holds'). Laid BY PROGRAM, IN A SANDBOX (cutbox-door.mjs). By AI agents, Wed Nov 11 2026. No macro, syntax, notation, axiom, sorry.
-/
import Derived.Test.YtlnemkdoknkhaaaDoorRows
import GoSem.ClaimSeven
namespace Go.Proofs.YtlnemkdoknkhaaaDoor
namespace Rows

/-- THE TIED CARD OF 'davitlaw33.ShowBacks'. -/
def showBacksCard : Claim7 := { stood := { row := showBacksRow, standIns := [], harness := (true, "fb6bd47c3a954dd053aa0bc0555239c182485c7079e4564474b2ba0b1843224a"), looks := true }, kinds := [], alts := [], laidByText := true, laidKinds := [.data, .data, .data, .sentinel, .sentinel], laidTests := true, laidLooks := .later }
def ShowBacksCardSaid : Prop := Claim7.holds Tryd.pinned (.plain (OpenSpec.ofChange showBacksSpec)) showBacksCard

/-- THE TIED CARD OF 'davitlaw33.ShowBoth'. -/
def showBothCard : Claim7 := { stood := { row := showBothRow, standIns := [], harness := (true, "fb6bd47c3a954dd053aa0bc0555239c182485c7079e4564474b2ba0b1843224a"), looks := true }, kinds := [], alts := [], laidByText := true, laidKinds := [.data, .data, .data, .sentinel, .sentinel], laidTests := true, laidLooks := .later }
def ShowBothCardSaid : Prop := Claim7.holds Tryd.pinned (.plain (OpenSpec.ofChange showBothSpec)) showBothCard

/-- THE SECOND FORM's CARD OF 'davitlaw33.ShowBacks'. -/
def showBacksUptoCard : Claim7 := { stood := { row := showBacksUptoRow, standIns := [], harness := (true, "fb6bd47c3a954dd053aa0bc0555239c182485c7079e4564474b2ba0b1843224a"), looks := true }, kinds := [], alts := [], laidByText := true, laidKinds := [.data, .data, .data, .sentinel, .sentinel], laidTests := true, laidLooks := .later }
def ShowBacksUptoCardSaid : Prop := Claim7.holds Tryd.pinned (.plain (OpenSpec.upto showBacksSpec)) showBacksUptoCard

/-- THE SECOND FORM's CARD OF 'davitlaw33.ShowBoth'. -/
def showBothUptoCard : Claim7 := { stood := { row := showBothUptoRow, standIns := [], harness := (true, "fb6bd47c3a954dd053aa0bc0555239c182485c7079e4564474b2ba0b1843224a"), looks := true }, kinds := [], alts := [], laidByText := true, laidKinds := [.data, .data, .data, .sentinel, .sentinel], laidTests := true, laidLooks := .later }
def ShowBothUptoCardSaid : Prop := Claim7.holds Tryd.pinned (.plain (OpenSpec.upto showBothSpec)) showBothUptoCard
end Rows
end Go.Proofs.YtlnemkdoknkhaaaDoor
