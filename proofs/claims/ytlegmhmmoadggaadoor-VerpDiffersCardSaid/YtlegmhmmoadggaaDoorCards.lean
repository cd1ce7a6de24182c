/-
  DERIVED. GIVEN WITH THE SEED: THE CARDS: each row of YtlegmhmmoadggaaDoorRows.lean that lists a variable, with what it lists TIED to the program's text (the seventh form; the later family's looks); each row that meets fmt, with fmt's text TOLD by the authors' own Lean function (tested against real Go, not proved from fmt's source: count such statements apart). THE CARD IS WHAT COUNTS. Prove the row's statement (the work); the ties are given (YtlegmhmmoadggaaDoorTie.lean); close each card by the builder's one call (the guide's Derived/Test/ToyasCard.lean, 'card_holds'). Laid BY PROGRAM, IN A SANDBOX (cutbox-door.mjs). By AI agents, Wed Nov 11 2026. No macro, syntax, notation, axiom, sorry.
-/
import Derived.Test.YtlegmhmmoadggaaDoorRows
import GoSem.ClaimSeven
namespace Go.Proofs.YtlegmhmmoadggaaDoor
namespace Rows

/-- THE TIED CARD OF 'missivelaw38.VerpOnly'. -/
def verpOnlyCard : Claim7 := { stood := { row := verpOnlyRow, standIns := [], harness := (true, "8e7a2e25da4cb7df34d51d8919bb173a3118d07d719d3b6511f506e7a9af3b27"), looks := true }, kinds := [], alts := [], laidByText := true, laidKinds := [.data, .data, .data, .sentinel, .sentinel, .data, .data], laidTests := true, laidLooks := .later }
def VerpOnlyCardSaid : Prop := Claim7.holds Tryd.pinned (.plain (OpenSpec.ofChange verpOnlySpec)) verpOnlyCard

/-- THE TIED CARD OF 'missivelaw38.VerpDiffers'. -/
def verpDiffersCard : Claim7 := { stood := { row := verpDiffersRow, standIns := [], harness := (true, "8e7a2e25da4cb7df34d51d8919bb173a3118d07d719d3b6511f506e7a9af3b27"), looks := true }, kinds := [], alts := [], laidByText := true, laidKinds := [.data, .data, .data, .sentinel, .sentinel, .data, .data], laidTests := true, laidLooks := .later }
def VerpDiffersCardSaid : Prop := Claim7.holds Tryd.pinned (.plain (OpenSpec.ofChange verpDiffersSpec)) verpDiffersCard

/-- THE TIED CARD OF 'missivelaw38.VerpBack'. -/
def verpBackCard : Claim7 := { stood := { row := verpBackRow, standIns := [], harness := (true, "8e7a2e25da4cb7df34d51d8919bb173a3118d07d719d3b6511f506e7a9af3b27"), looks := true }, kinds := [], alts := [], laidByText := true, laidKinds := [.data, .data, .data, .sentinel, .sentinel, .data, .data], laidTests := true, laidLooks := .later }
def VerpBackCardSaid : Prop := Claim7.holds Tryd.pinned (.plain (OpenSpec.ofChange verpBackSpec)) verpBackCard

/-- THE SECOND FORM's CARD OF 'missivelaw38.VerpOnly'. -/
def verpOnlyUptoCard : Claim7 := { stood := { row := verpOnlyUptoRow, standIns := [], harness := (true, "8e7a2e25da4cb7df34d51d8919bb173a3118d07d719d3b6511f506e7a9af3b27"), looks := true }, kinds := [], alts := [], laidByText := true, laidKinds := [.data, .data, .data, .sentinel, .sentinel, .data, .data], laidTests := true, laidLooks := .later }
def VerpOnlyUptoCardSaid : Prop := Claim7.holds Tryd.pinned (.plain (OpenSpec.upto verpOnlySpec)) verpOnlyUptoCard

/-- THE SECOND FORM's CARD OF 'missivelaw38.VerpDiffers'. -/
def verpDiffersUptoCard : Claim7 := { stood := { row := verpDiffersUptoRow, standIns := [], harness := (true, "8e7a2e25da4cb7df34d51d8919bb173a3118d07d719d3b6511f506e7a9af3b27"), looks := true }, kinds := [], alts := [], laidByText := true, laidKinds := [.data, .data, .data, .sentinel, .sentinel, .data, .data], laidTests := true, laidLooks := .later }
def VerpDiffersUptoCardSaid : Prop := Claim7.holds Tryd.pinned (.plain (OpenSpec.upto verpDiffersSpec)) verpDiffersUptoCard

/-- THE SECOND FORM's CARD OF 'missivelaw38.VerpBack'. -/
def verpBackUptoCard : Claim7 := { stood := { row := verpBackUptoRow, standIns := [], harness := (true, "8e7a2e25da4cb7df34d51d8919bb173a3118d07d719d3b6511f506e7a9af3b27"), looks := true }, kinds := [], alts := [], laidByText := true, laidKinds := [.data, .data, .data, .sentinel, .sentinel, .data, .data], laidTests := true, laidLooks := .later }
def VerpBackUptoCardSaid : Prop := Claim7.holds Tryd.pinned (.plain (OpenSpec.upto verpBackSpec)) verpBackUptoCard
end Rows
end Go.Proofs.YtlegmhmmoadggaaDoor
