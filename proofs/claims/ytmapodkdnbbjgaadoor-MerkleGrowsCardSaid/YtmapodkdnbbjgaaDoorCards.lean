/-
  DERIVED. GIVEN WITH THE SEED: THE CARDS: each row of YtmapodkdnbbjgaaDoorRows.lean that lists a variable, with what it lists TIED to the program's text (the seventh form; the later family's looks); each row that meets fmt, with fmt's text TOLD by the authors' own Lean function (tested against real Go, not proved from fmt's source: count such statements apart). THE CARD IS WHAT COUNTS. Prove the row's statement (the work); the ties are given (YtmapodkdnbbjgaaDoorTie.lean); close each card by the builder's one call (the guide's Derived/Test/ToyasCard.lean, 'card_holds'). Laid BY PROGRAM, IN A SANDBOX (cutbox-door.mjs). By AI agents, Wed Nov 11 2026. No macro, syntax, notation, axiom, sorry.
-/
import Derived.Test.YtmapodkdnbbjgaaDoorRows
import GoSem.ClaimSeven
namespace Go.Proofs.YtmapodkdnbbjgaaDoor
namespace Rows

/-- THE TIED CARD OF 'missivelaw04.MerkleTells'. -/
def merkleTellsCard : Claim7 := { stood := { row := merkleTellsRow, standIns := [], harness := (true, "06d789af9dc99804832e67d7df2fc5a476f8c59eccbd0760f5337a059a9f243f"), looks := false }, kinds := [], alts := [], laidByText := true, laidKinds := [.data], laidTests := true, laidLooks := .later }
def MerkleTellsCardSaid : Prop := Claim7.holds Tryd.pinned (.plain (OpenSpec.ofChange merkleTellsSpec)) merkleTellsCard

/-- THE TIED CARD OF 'missivelaw04.MerklePaths'. -/
def merklePathsCard : Claim7 := { stood := { row := merklePathsRow, standIns := [], harness := (true, "06d789af9dc99804832e67d7df2fc5a476f8c59eccbd0760f5337a059a9f243f"), looks := false }, kinds := [], alts := [], laidByText := true, laidKinds := [.data], laidTests := true, laidLooks := .later }
def MerklePathsCardSaid : Prop := Claim7.holds Tryd.pinned (.plain (OpenSpec.ofChange merklePathsSpec)) merklePathsCard

/-- THE TIED CARD OF 'missivelaw04.MerkleGrows'. -/
def merkleGrowsCard : Claim7 := { stood := { row := merkleGrowsRow, standIns := [], harness := (true, "06d789af9dc99804832e67d7df2fc5a476f8c59eccbd0760f5337a059a9f243f"), looks := false }, kinds := [], alts := [], laidByText := true, laidKinds := [.data], laidTests := true, laidLooks := .later }
def MerkleGrowsCardSaid : Prop := Claim7.holds Tryd.pinned (.plain (OpenSpec.ofChange merkleGrowsSpec)) merkleGrowsCard

/-- THE TIED CARD OF 'missivelaw04.MerkleRoots'. -/
def merkleRootsCard : Claim7 := { stood := { row := merkleRootsRow, standIns := [], harness := (true, "06d789af9dc99804832e67d7df2fc5a476f8c59eccbd0760f5337a059a9f243f"), looks := false }, kinds := [], alts := [], laidByText := true, laidKinds := [.data], laidTests := true, laidLooks := .later }
def MerkleRootsCardSaid : Prop := Claim7.holds Tryd.pinned (.plain (OpenSpec.ofChange merkleRootsSpec)) merkleRootsCard

/-- THE TIED CARD OF 'missivelaw04.MerkleParts'. -/
def merklePartsCard : Claim7 := { stood := { row := merklePartsRow, standIns := [], harness := (true, "06d789af9dc99804832e67d7df2fc5a476f8c59eccbd0760f5337a059a9f243f"), looks := false }, kinds := [], alts := [], laidByText := true, laidKinds := [.data], laidTests := true, laidLooks := .later }
def MerklePartsCardSaid : Prop := Claim7.holds Tryd.pinned (.plain (OpenSpec.ofChange merklePartsSpec)) merklePartsCard

/-- THE TIED CARD OF 'missivelaw04.MerkleDigests'. -/
def merkleDigestsCard : Claim7 := { stood := { row := merkleDigestsRow, standIns := [], harness := (true, "06d789af9dc99804832e67d7df2fc5a476f8c59eccbd0760f5337a059a9f243f"), looks := false }, kinds := [], alts := [], laidByText := true, laidKinds := [.data], laidTests := true, laidLooks := .later }
def MerkleDigestsCardSaid : Prop := Claim7.holds Tryd.pinned (.plain (OpenSpec.ofChange merkleDigestsSpec)) merkleDigestsCard

/-- THE SECOND FORM's CARD OF 'missivelaw04.MerkleTells'. -/
def merkleTellsUptoCard : Claim7 := { stood := { row := merkleTellsUptoRow, standIns := [], harness := (true, "06d789af9dc99804832e67d7df2fc5a476f8c59eccbd0760f5337a059a9f243f"), looks := false }, kinds := [], alts := [], laidByText := true, laidKinds := [.data], laidTests := true, laidLooks := .later }
def MerkleTellsUptoCardSaid : Prop := Claim7.holds Tryd.pinned (.plain (OpenSpec.upto merkleTellsSpec)) merkleTellsUptoCard

/-- THE SECOND FORM's CARD OF 'missivelaw04.MerklePaths'. -/
def merklePathsUptoCard : Claim7 := { stood := { row := merklePathsUptoRow, standIns := [], harness := (true, "06d789af9dc99804832e67d7df2fc5a476f8c59eccbd0760f5337a059a9f243f"), looks := false }, kinds := [], alts := [], laidByText := true, laidKinds := [.data], laidTests := true, laidLooks := .later }
def MerklePathsUptoCardSaid : Prop := Claim7.holds Tryd.pinned (.plain (OpenSpec.upto merklePathsSpec)) merklePathsUptoCard

/-- THE SECOND FORM's CARD OF 'missivelaw04.MerkleGrows'. -/
def merkleGrowsUptoCard : Claim7 := { stood := { row := merkleGrowsUptoRow, standIns := [], harness := (true, "06d789af9dc99804832e67d7df2fc5a476f8c59eccbd0760f5337a059a9f243f"), looks := false }, kinds := [], alts := [], laidByText := true, laidKinds := [.data], laidTests := true, laidLooks := .later }
def MerkleGrowsUptoCardSaid : Prop := Claim7.holds Tryd.pinned (.plain (OpenSpec.upto merkleGrowsSpec)) merkleGrowsUptoCard

/-- THE SECOND FORM's CARD OF 'missivelaw04.MerkleRoots'. -/
def merkleRootsUptoCard : Claim7 := { stood := { row := merkleRootsUptoRow, standIns := [], harness := (true, "06d789af9dc99804832e67d7df2fc5a476f8c59eccbd0760f5337a059a9f243f"), looks := false }, kinds := [], alts := [], laidByText := true, laidKinds := [.data], laidTests := true, laidLooks := .later }
def MerkleRootsUptoCardSaid : Prop := Claim7.holds Tryd.pinned (.plain (OpenSpec.upto merkleRootsSpec)) merkleRootsUptoCard

/-- THE SECOND FORM's CARD OF 'missivelaw04.MerkleParts'. -/
def merklePartsUptoCard : Claim7 := { stood := { row := merklePartsUptoRow, standIns := [], harness := (true, "06d789af9dc99804832e67d7df2fc5a476f8c59eccbd0760f5337a059a9f243f"), looks := false }, kinds := [], alts := [], laidByText := true, laidKinds := [.data], laidTests := true, laidLooks := .later }
def MerklePartsUptoCardSaid : Prop := Claim7.holds Tryd.pinned (.plain (OpenSpec.upto merklePartsSpec)) merklePartsUptoCard

/-- THE SECOND FORM's CARD OF 'missivelaw04.MerkleDigests'. -/
def merkleDigestsUptoCard : Claim7 := { stood := { row := merkleDigestsUptoRow, standIns := [], harness := (true, "06d789af9dc99804832e67d7df2fc5a476f8c59eccbd0760f5337a059a9f243f"), looks := false }, kinds := [], alts := [], laidByText := true, laidKinds := [.data], laidTests := true, laidLooks := .later }
def MerkleDigestsUptoCardSaid : Prop := Claim7.holds Tryd.pinned (.plain (OpenSpec.upto merkleDigestsSpec)) merkleDigestsUptoCard
end Rows
end Go.Proofs.YtmapodkdnbbjgaaDoor
