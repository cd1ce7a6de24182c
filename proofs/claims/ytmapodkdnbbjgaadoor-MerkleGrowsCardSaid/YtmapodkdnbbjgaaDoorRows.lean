/-
  NARROWER THAN 'FOR EVERY INPUT', by the rows' own cells (each row's printed sentence says how): MerkleTells: laid · MerklePaths: laid · MerkleGrows: laid · MerkleRoots: laid · MerkleParts: laid · MerkleDigests: laid.
  DERIVED. THE GIVEN ROWS OF THIS SEAT. 6 by the template 'for every input the law returns true; each argument reads behind the call as it read before'; 0 by the template 'total and deterministic' (their statements: YtmapodkdnbbjgaaDoorTotals.lean).
  GIVEN WITH THE SEED: the statements are not yours to turn. If you find one false, say at which input.
  Laid BY PROGRAM, IN A SANDBOX (cutbox-rows.mjs): the forced cells as the released guide's own fill.sh prints them over the translation b913616ccdad54f0… (all of the seat's roots in one cut). By AI agents, Wed Nov 11 2026. No macro, syntax, notation, axiom, sorry.
-/
import Derived.Test.YtmapodkdnbbjgaaDoorChecked
import GoSem.Claim
import GoSem.ClaimJoined
import GoSem.ClaimMapViews
import Derived.JoinedTies
import Derived.KernelRfl
namespace Go.Proofs.YtmapodkdnbbjgaaDoor
/- THE CELL 'sum', in the pinned program and in every row, IS THE sha256 OF THE DUMP (.gsa) THAT YtmapodkdnbbjgaaDoorProg.lean LOADS. Nothing in Lean hashes anything: it is a label: what it is worth is what the hold of that sum in a sandbox is worth. -/
noncomputable def Tryd.pinned : Pinned := { name := "ytmapodkdnbbjgaadoor", sum := "b913616ccdad54f067df0f1614dcd5296512c802150cdda4ff890d5ee3dcd429", checked := Tryd.checked }
namespace Rows
def none {H : Type} : Left H := { results := [], args := [] }

/- WHAT THE LISTED PACKAGE-LEVEL VARIABLES READ AS WHEN THE CALL BEGINS. Each datum BY PROGRAM (the guide's laid-datum.mjs) off the statement by which the dump's own 'gosem.cut.vars' lays the variable. In a bare row this is a premise. The card (YtmapodkdnbbjgaaDoorCards.lean) ties it to the program's text. -/
def laid_missive_digest_constants {H : Type} : DataW H := .agg [.lit (.int .u32 1116352408), .lit (.int .u32 1899447441), .lit (.int .u32 3049323471), .lit (.int .u32 3921009573), .lit (.int .u32 961987163), .lit (.int .u32 1508970993), .lit (.int .u32 2453635748), .lit (.int .u32 2870763221), .lit (.int .u32 3624381080), .lit (.int .u32 310598401), .lit (.int .u32 607225278), .lit (.int .u32 1426881987), .lit (.int .u32 1925078388), .lit (.int .u32 2162078206), .lit (.int .u32 2614888103), .lit (.int .u32 3248222580), .lit (.int .u32 3835390401), .lit (.int .u32 4022224774), .lit (.int .u32 264347078), .lit (.int .u32 604807628), .lit (.int .u32 770255983), .lit (.int .u32 1249150122), .lit (.int .u32 1555081692), .lit (.int .u32 1996064986), .lit (.int .u32 2554220882), .lit (.int .u32 2821834349), .lit (.int .u32 2952996808), .lit (.int .u32 3210313671), .lit (.int .u32 3336571891), .lit (.int .u32 3584528711), .lit (.int .u32 113926993), .lit (.int .u32 338241895), .lit (.int .u32 666307205), .lit (.int .u32 773529912), .lit (.int .u32 1294757372), .lit (.int .u32 1396182291), .lit (.int .u32 1695183700), .lit (.int .u32 1986661051), .lit (.int .u32 2177026350), .lit (.int .u32 2456956037), .lit (.int .u32 2730485921), .lit (.int .u32 2820302411), .lit (.int .u32 3259730800), .lit (.int .u32 3345764771), .lit (.int .u32 3516065817), .lit (.int .u32 3600352804), .lit (.int .u32 4094571909), .lit (.int .u32 275423344), .lit (.int .u32 430227734), .lit (.int .u32 506948616), .lit (.int .u32 659060556), .lit (.int .u32 883997877), .lit (.int .u32 958139571), .lit (.int .u32 1322822218), .lit (.int .u32 1537002063), .lit (.int .u32 1747873779), .lit (.int .u32 1955562222), .lit (.int .u32 2024104815), .lit (.int .u32 2227730452), .lit (.int .u32 2361852424), .lit (.int .u32 2428436474), .lit (.int .u32 2756734187), .lit (.int .u32 3204031479), .lit (.int .u32 3329325298)]

/-- 'missivelaw04.MerkleTells': WHATEVER THE INPUT: true; the input reads as it did. -/
def merkleTellsSpec : ChangeSpec := { name := "merkleTells", fn := fun _ => fun
  | [d1, d2, d3, d4, d5, d6] => { results := [.lit (.bool true)], args := [d1, d2, d3, d4, d5, d6] }
  | _ => none }
def merkleTellsRow : OpenClaim := { program := "ytmapodkdnbbjgaadoor", sum := "b913616ccdad54f067df0f1614dcd5296512c802150cdda4ff890d5ee3dcd429", func := "missive/missivelaw04.MerkleTells", spec := "merkleTells", inPlace := ["internal/abi.NoEscape"], unfollowed := true, recurses := true, named := ["missive/digest.constants"], apart := false, laid := [("missive/digest.constants", laid_missive_digest_constants)] }
def MerkleTellsSaid : Prop := merkleTellsRow.holds Tryd.pinned (OpenSpec.ofChange merkleTellsSpec)

/-- ITS FALSE NEIGHBOUR: 'it returns false'. Refute it at one input. -/
def merkleTellsWrong : ChangeSpec := { name := "merkleTells", fn := fun _ => fun
  | [d1, d2, d3, d4, d5, d6] => { results := [.lit (.bool false)], args := [d1, d2, d3, d4, d5, d6] }
  | _ => none }
def MerkleTellsWrongFalsely : Prop := merkleTellsRow.holds Tryd.pinned (OpenSpec.ofChange merkleTellsWrong)

/-- 'missivelaw04.MerklePaths': WHATEVER THE INPUT: true; the input reads as it did. -/
def merklePathsSpec : ChangeSpec := { name := "merklePaths", fn := fun _ => fun
  | [d1, d2, d3, d4] => { results := [.lit (.bool true)], args := [d1, d2, d3, d4] }
  | _ => none }
def merklePathsRow : OpenClaim := { program := "ytmapodkdnbbjgaadoor", sum := "b913616ccdad54f067df0f1614dcd5296512c802150cdda4ff890d5ee3dcd429", func := "missive/missivelaw04.MerklePaths", spec := "merklePaths", inPlace := ["internal/abi.NoEscape"], unfollowed := true, recurses := true, named := ["missive/digest.constants"], apart := false, laid := [("missive/digest.constants", laid_missive_digest_constants)] }
def MerklePathsSaid : Prop := merklePathsRow.holds Tryd.pinned (OpenSpec.ofChange merklePathsSpec)

/-- ITS FALSE NEIGHBOUR: 'it returns false'. Refute it at one input. -/
def merklePathsWrong : ChangeSpec := { name := "merklePaths", fn := fun _ => fun
  | [d1, d2, d3, d4] => { results := [.lit (.bool false)], args := [d1, d2, d3, d4] }
  | _ => none }
def MerklePathsWrongFalsely : Prop := merklePathsRow.holds Tryd.pinned (OpenSpec.ofChange merklePathsWrong)

/-- 'missivelaw04.MerkleGrows': WHATEVER THE INPUT: true; the input reads as it did. -/
def merkleGrowsSpec : ChangeSpec := { name := "merkleGrows", fn := fun _ => fun
  | [d1, d2, d3, d4] => { results := [.lit (.bool true)], args := [d1, d2, d3, d4] }
  | _ => none }
def merkleGrowsRow : OpenClaim := { program := "ytmapodkdnbbjgaadoor", sum := "b913616ccdad54f067df0f1614dcd5296512c802150cdda4ff890d5ee3dcd429", func := "missive/missivelaw04.MerkleGrows", spec := "merkleGrows", inPlace := ["internal/abi.NoEscape"], unfollowed := true, recurses := true, named := ["missive/digest.constants"], apart := false, laid := [("missive/digest.constants", laid_missive_digest_constants)] }
def MerkleGrowsSaid : Prop := merkleGrowsRow.holds Tryd.pinned (OpenSpec.ofChange merkleGrowsSpec)

/-- ITS FALSE NEIGHBOUR: 'it returns false'. Refute it at one input. -/
def merkleGrowsWrong : ChangeSpec := { name := "merkleGrows", fn := fun _ => fun
  | [d1, d2, d3, d4] => { results := [.lit (.bool false)], args := [d1, d2, d3, d4] }
  | _ => none }
def MerkleGrowsWrongFalsely : Prop := merkleGrowsRow.holds Tryd.pinned (OpenSpec.ofChange merkleGrowsWrong)

/-- 'missivelaw04.MerkleRoots': WHATEVER THE INPUT: true; the input reads as it did. -/
def merkleRootsSpec : ChangeSpec := { name := "merkleRoots", fn := fun _ => fun
  | [d1, d2] => { results := [.lit (.bool true)], args := [d1, d2] }
  | _ => none }
def merkleRootsRow : OpenClaim := { program := "ytmapodkdnbbjgaadoor", sum := "b913616ccdad54f067df0f1614dcd5296512c802150cdda4ff890d5ee3dcd429", func := "missive/missivelaw04.MerkleRoots", spec := "merkleRoots", inPlace := ["internal/abi.NoEscape"], unfollowed := true, recurses := true, named := ["missive/digest.constants"], apart := false, laid := [("missive/digest.constants", laid_missive_digest_constants)] }
def MerkleRootsSaid : Prop := merkleRootsRow.holds Tryd.pinned (OpenSpec.ofChange merkleRootsSpec)

/-- ITS FALSE NEIGHBOUR: 'it returns false'. Refute it at one input. -/
def merkleRootsWrong : ChangeSpec := { name := "merkleRoots", fn := fun _ => fun
  | [d1, d2] => { results := [.lit (.bool false)], args := [d1, d2] }
  | _ => none }
def MerkleRootsWrongFalsely : Prop := merkleRootsRow.holds Tryd.pinned (OpenSpec.ofChange merkleRootsWrong)

/-- 'missivelaw04.MerkleParts': WHATEVER THE INPUT: true; the input reads as it did. -/
def merklePartsSpec : ChangeSpec := { name := "merkleParts", fn := fun _ => fun
  | [d1, d2, d3] => { results := [.lit (.bool true)], args := [d1, d2, d3] }
  | _ => none }
def merklePartsRow : OpenClaim := { program := "ytmapodkdnbbjgaadoor", sum := "b913616ccdad54f067df0f1614dcd5296512c802150cdda4ff890d5ee3dcd429", func := "missive/missivelaw04.MerkleParts", spec := "merkleParts", inPlace := ["internal/abi.NoEscape"], unfollowed := true, recurses := true, named := ["missive/digest.constants"], apart := false, laid := [("missive/digest.constants", laid_missive_digest_constants)] }
def MerklePartsSaid : Prop := merklePartsRow.holds Tryd.pinned (OpenSpec.ofChange merklePartsSpec)

/-- ITS FALSE NEIGHBOUR: 'it returns false'. Refute it at one input. -/
def merklePartsWrong : ChangeSpec := { name := "merkleParts", fn := fun _ => fun
  | [d1, d2, d3] => { results := [.lit (.bool false)], args := [d1, d2, d3] }
  | _ => none }
def MerklePartsWrongFalsely : Prop := merklePartsRow.holds Tryd.pinned (OpenSpec.ofChange merklePartsWrong)

/-- 'missivelaw04.MerkleDigests': WHATEVER THE INPUT: true; the input reads as it did. -/
def merkleDigestsSpec : ChangeSpec := { name := "merkleDigests", fn := fun _ => fun
  | [d1, d2, d3, d4] => { results := [.lit (.bool true)], args := [d1, d2, d3, d4] }
  | _ => none }
def merkleDigestsRow : OpenClaim := { program := "ytmapodkdnbbjgaadoor", sum := "b913616ccdad54f067df0f1614dcd5296512c802150cdda4ff890d5ee3dcd429", func := "missive/missivelaw04.MerkleDigests", spec := "merkleDigests", inPlace := ["internal/abi.NoEscape"], unfollowed := true, recurses := true, named := ["missive/digest.constants"], apart := false, laid := [("missive/digest.constants", laid_missive_digest_constants)] }
def MerkleDigestsSaid : Prop := merkleDigestsRow.holds Tryd.pinned (OpenSpec.ofChange merkleDigestsSpec)

/-- ITS FALSE NEIGHBOUR: 'it returns false'. Refute it at one input. -/
def merkleDigestsWrong : ChangeSpec := { name := "merkleDigests", fn := fun _ => fun
  | [d1, d2, d3, d4] => { results := [.lit (.bool false)], args := [d1, d2, d3, d4] }
  | _ => none }
def MerkleDigestsWrongFalsely : Prop := merkleDigestsRow.holds Tryd.pinned (OpenSpec.ofChange merkleDigestsWrong)

/- THE SECOND FORM. 'bulk': how many values and letters a reading holds, each counted each time it is reached (what is shared counts as often as it is met; a slice's spare places count too). A statement '..UptoSaid' is the law's where the arguments, and the package variables that the reading takes, are together of bulk at most 1048576: NARROWER than '..Said'. Prove '..Said' where nothing that the law and all that it calls make is longer than what came in: it says more and counts as full. Else prove '..UptoSaid'. A law counts once. -/
mutual
def uptoBulk {H : Type} : DataW H → Nat
  | .lit (.string bytes) => bytes.length + 1
  | .lit _ => 1
  | .nil => 1
  | .ptr d => uptoBulk d + 1
  | .slice elems spare => uptoBulkAll elems + uptoBulkAll spare + 1
  | .agg parts => uptoBulkAll parts + 1
  | .iface _ d => uptoBulk d + 1
  | .map entries => uptoBulkEntries entries + 1
  | .held _ => 1
def uptoBulkAll {H : Type} : List (DataW H) → Nat
  | [] => 0
  | d :: r => uptoBulk d + uptoBulkAll r
def uptoBulkEntries {H : Type} : List (Lit × DataW H) → Nat
  | [] => 0
  | x :: r => uptoBulkEntry x + uptoBulkEntries r
def uptoBulkEntry {H : Type} : Lit × DataW H → Nat
  | (.string bytes, d) => bytes.length + uptoBulk d + 1
  | (_, d) => uptoBulk d + 1
 end
def uptoSmall : (H : Type) → List (DataW H) → Bool := fun _ ds => decide (uptoBulkAll ds ≤ 1048576)
def OpenSpec.upto (s : _root_.Go.ChangeSpec) : _root_.Go.OpenSpec := { _root_.Go.OpenSpec.ofChange s with cond := some uptoSmall }

/-- 'missivelaw04.MerkleTells', WHERE WHAT IT READS IS OF BULK AT MOST 1048576: true; the input reads as it did. -/
def merkleTellsUptoRow : OpenClaim := { program := "ytmapodkdnbbjgaadoor", sum := "b913616ccdad54f067df0f1614dcd5296512c802150cdda4ff890d5ee3dcd429", func := "missive/missivelaw04.MerkleTells", spec := "merkleTells", inPlace := ["internal/abi.NoEscape"], unfollowed := true, recurses := true, named := ["missive/digest.constants"], apart := false, laid := [("missive/digest.constants", laid_missive_digest_constants)], narrowed := true }
def MerkleTellsUptoSaid : Prop := merkleTellsUptoRow.holds Tryd.pinned (OpenSpec.upto merkleTellsSpec)

/-- 'missivelaw04.MerklePaths', WHERE WHAT IT READS IS OF BULK AT MOST 1048576: true; the input reads as it did. -/
def merklePathsUptoRow : OpenClaim := { program := "ytmapodkdnbbjgaadoor", sum := "b913616ccdad54f067df0f1614dcd5296512c802150cdda4ff890d5ee3dcd429", func := "missive/missivelaw04.MerklePaths", spec := "merklePaths", inPlace := ["internal/abi.NoEscape"], unfollowed := true, recurses := true, named := ["missive/digest.constants"], apart := false, laid := [("missive/digest.constants", laid_missive_digest_constants)], narrowed := true }
def MerklePathsUptoSaid : Prop := merklePathsUptoRow.holds Tryd.pinned (OpenSpec.upto merklePathsSpec)

/-- 'missivelaw04.MerkleGrows', WHERE WHAT IT READS IS OF BULK AT MOST 1048576: true; the input reads as it did. -/
def merkleGrowsUptoRow : OpenClaim := { program := "ytmapodkdnbbjgaadoor", sum := "b913616ccdad54f067df0f1614dcd5296512c802150cdda4ff890d5ee3dcd429", func := "missive/missivelaw04.MerkleGrows", spec := "merkleGrows", inPlace := ["internal/abi.NoEscape"], unfollowed := true, recurses := true, named := ["missive/digest.constants"], apart := false, laid := [("missive/digest.constants", laid_missive_digest_constants)], narrowed := true }
def MerkleGrowsUptoSaid : Prop := merkleGrowsUptoRow.holds Tryd.pinned (OpenSpec.upto merkleGrowsSpec)

/-- 'missivelaw04.MerkleRoots', WHERE WHAT IT READS IS OF BULK AT MOST 1048576: true; the input reads as it did. -/
def merkleRootsUptoRow : OpenClaim := { program := "ytmapodkdnbbjgaadoor", sum := "b913616ccdad54f067df0f1614dcd5296512c802150cdda4ff890d5ee3dcd429", func := "missive/missivelaw04.MerkleRoots", spec := "merkleRoots", inPlace := ["internal/abi.NoEscape"], unfollowed := true, recurses := true, named := ["missive/digest.constants"], apart := false, laid := [("missive/digest.constants", laid_missive_digest_constants)], narrowed := true }
def MerkleRootsUptoSaid : Prop := merkleRootsUptoRow.holds Tryd.pinned (OpenSpec.upto merkleRootsSpec)

/-- 'missivelaw04.MerkleParts', WHERE WHAT IT READS IS OF BULK AT MOST 1048576: true; the input reads as it did. -/
def merklePartsUptoRow : OpenClaim := { program := "ytmapodkdnbbjgaadoor", sum := "b913616ccdad54f067df0f1614dcd5296512c802150cdda4ff890d5ee3dcd429", func := "missive/missivelaw04.MerkleParts", spec := "merkleParts", inPlace := ["internal/abi.NoEscape"], unfollowed := true, recurses := true, named := ["missive/digest.constants"], apart := false, laid := [("missive/digest.constants", laid_missive_digest_constants)], narrowed := true }
def MerklePartsUptoSaid : Prop := merklePartsUptoRow.holds Tryd.pinned (OpenSpec.upto merklePartsSpec)

/-- 'missivelaw04.MerkleDigests', WHERE WHAT IT READS IS OF BULK AT MOST 1048576: true; the input reads as it did. -/
def merkleDigestsUptoRow : OpenClaim := { program := "ytmapodkdnbbjgaadoor", sum := "b913616ccdad54f067df0f1614dcd5296512c802150cdda4ff890d5ee3dcd429", func := "missive/missivelaw04.MerkleDigests", spec := "merkleDigests", inPlace := ["internal/abi.NoEscape"], unfollowed := true, recurses := true, named := ["missive/digest.constants"], apart := false, laid := [("missive/digest.constants", laid_missive_digest_constants)], narrowed := true }
def MerkleDigestsUptoSaid : Prop := merkleDigestsUptoRow.holds Tryd.pinned (OpenSpec.upto merkleDigestsSpec)

end Rows
end Go.Proofs.YtmapodkdnbbjgaaDoor
