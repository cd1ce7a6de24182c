/-
  No cell of these rows narrows 'for every input' (looked for: loops, veiled, ifaces, maps, wideKeys, modest, calm, conditions, laid).
  DERIVED. THE GIVEN ROWS OF THIS SEAT. 6 by the template 'for every input the law returns true; each argument reads behind the call as it read before'; 0 by the template 'total and deterministic' (their statements: YtbcldkbacdnpiaaTotals.lean).
  GIVEN WITH THE SEED: the statements are not yours to turn. If you find one false, say at which input.
  Laid BY PROGRAM, IN A SANDBOX (cutbox-rows.mjs): the forced cells as the released guide's own fill.sh prints them over the translation a42bfc7dbe72634f… (all of the seat's roots in one cut). By AI agents, Wed Nov 11 2026. No macro, syntax, notation, axiom, sorry.
-/
import Derived.Test.YtbcldkbacdnpiaaChecked
import GoSem.Claim
import GoSem.ClaimJoined
import GoSem.ClaimMapViews
import Derived.JoinedTies
import Derived.KernelRfl
namespace Go.Proofs.Ytbcldkbacdnpiaa
/- THE CELL 'sum', in the pinned program and in every row, IS THE sha256 OF THE DUMP (.gsa) THAT YtbcldkbacdnpiaaProg.lean LOADS. Nothing in Lean hashes anything: it is a label: what it is worth is what the hold of that sum in a sandbox is worth. -/
noncomputable def Try.pinned : Pinned := { name := "ytbcldkbacdnpiaa", sum := "a42bfc7dbe72634ffbba1216cccc0cb354a42908f71216ee6544d86b5343ac02", checked := Try.checked }
namespace Rows
def none {H : Type} : Left H := { results := [], args := [] }

/-- 'missivelaw30.QuorumStays': WHATEVER THE INPUT: true; the input reads as it did. -/
def quorumStaysSpec : ChangeSpec := { name := "quorumStays", fn := fun _ => fun
  | [d1, d2, d3, d4, d5, d6] => { results := [.lit (.bool true)], args := [d1, d2, d3, d4, d5, d6] }
  | _ => none }
def quorumStaysRow : OpenClaim := { program := "ytbcldkbacdnpiaa", sum := "a42bfc7dbe72634ffbba1216cccc0cb354a42908f71216ee6544d86b5343ac02", func := "missive/missivelaw30.QuorumStays", spec := "quorumStays", unfollowed := true, recurses := true, apart := false }
def QuorumStaysSaid : Prop := quorumStaysRow.holds Try.pinned (OpenSpec.ofChange quorumStaysSpec)

/-- ITS FALSE NEIGHBOUR: 'it returns false'. Refute it at one input. -/
def quorumStaysWrong : ChangeSpec := { name := "quorumStays", fn := fun _ => fun
  | [d1, d2, d3, d4, d5, d6] => { results := [.lit (.bool false)], args := [d1, d2, d3, d4, d5, d6] }
  | _ => none }
def QuorumStaysWrongFalsely : Prop := quorumStaysRow.holds Try.pinned (OpenSpec.ofChange quorumStaysWrong)

/-- 'missivelaw30.QuorumLate': WHATEVER THE INPUT: true; the input reads as it did. -/
def quorumLateSpec : ChangeSpec := { name := "quorumLate", fn := fun _ => fun
  | [d1, d2, d3, d4, d5, d6] => { results := [.lit (.bool true)], args := [d1, d2, d3, d4, d5, d6] }
  | _ => none }
def quorumLateRow : OpenClaim := { program := "ytbcldkbacdnpiaa", sum := "a42bfc7dbe72634ffbba1216cccc0cb354a42908f71216ee6544d86b5343ac02", func := "missive/missivelaw30.QuorumLate", spec := "quorumLate", unfollowed := true, recurses := true, apart := false }
def QuorumLateSaid : Prop := quorumLateRow.holds Try.pinned (OpenSpec.ofChange quorumLateSpec)

/-- ITS FALSE NEIGHBOUR: 'it returns false'. Refute it at one input. -/
def quorumLateWrong : ChangeSpec := { name := "quorumLate", fn := fun _ => fun
  | [d1, d2, d3, d4, d5, d6] => { results := [.lit (.bool false)], args := [d1, d2, d3, d4, d5, d6] }
  | _ => none }
def QuorumLateWrongFalsely : Prop := quorumLateRow.holds Try.pinned (OpenSpec.ofChange quorumLateWrong)

/-- 'missivelaw30.QuorumTells': WHATEVER THE INPUT: true; the input reads as it did. -/
def quorumTellsSpec : ChangeSpec := { name := "quorumTells", fn := fun _ => fun
  | [d1, d2, d3, d4, d5] => { results := [.lit (.bool true)], args := [d1, d2, d3, d4, d5] }
  | _ => none }
def quorumTellsRow : OpenClaim := { program := "ytbcldkbacdnpiaa", sum := "a42bfc7dbe72634ffbba1216cccc0cb354a42908f71216ee6544d86b5343ac02", func := "missive/missivelaw30.QuorumTells", spec := "quorumTells", unfollowed := true, recurses := true, apart := false }
def QuorumTellsSaid : Prop := quorumTellsRow.holds Try.pinned (OpenSpec.ofChange quorumTellsSpec)

/-- ITS FALSE NEIGHBOUR: 'it returns false'. Refute it at one input. -/
def quorumTellsWrong : ChangeSpec := { name := "quorumTells", fn := fun _ => fun
  | [d1, d2, d3, d4, d5] => { results := [.lit (.bool false)], args := [d1, d2, d3, d4, d5] }
  | _ => none }
def QuorumTellsWrongFalsely : Prop := quorumTellsRow.holds Try.pinned (OpenSpec.ofChange quorumTellsWrong)

/-- 'missivelaw30.QuorumNames': WHATEVER THE INPUT: true; the input reads as it did. -/
def quorumNamesSpec : ChangeSpec := { name := "quorumNames", fn := fun _ => fun
  | [d1, d2, d3, d4, d5] => { results := [.lit (.bool true)], args := [d1, d2, d3, d4, d5] }
  | _ => none }
def quorumNamesRow : OpenClaim := { program := "ytbcldkbacdnpiaa", sum := "a42bfc7dbe72634ffbba1216cccc0cb354a42908f71216ee6544d86b5343ac02", func := "missive/missivelaw30.QuorumNames", spec := "quorumNames", unfollowed := true, recurses := true, apart := false }
def QuorumNamesSaid : Prop := quorumNamesRow.holds Try.pinned (OpenSpec.ofChange quorumNamesSpec)

/-- ITS FALSE NEIGHBOUR: 'it returns false'. Refute it at one input. -/
def quorumNamesWrong : ChangeSpec := { name := "quorumNames", fn := fun _ => fun
  | [d1, d2, d3, d4, d5] => { results := [.lit (.bool false)], args := [d1, d2, d3, d4, d5] }
  | _ => none }
def QuorumNamesWrongFalsely : Prop := quorumNamesRow.holds Try.pinned (OpenSpec.ofChange quorumNamesWrong)

/-- 'missivelaw30.QuorumCounts': WHATEVER THE INPUT: true; the input reads as it did. -/
def quorumCountsSpec : ChangeSpec := { name := "quorumCounts", fn := fun _ => fun
  | [d] => { results := [.lit (.bool true)], args := [d] }
  | _ => none }
def quorumCountsRow : OpenClaim := { program := "ytbcldkbacdnpiaa", sum := "a42bfc7dbe72634ffbba1216cccc0cb354a42908f71216ee6544d86b5343ac02", func := "missive/missivelaw30.QuorumCounts", spec := "quorumCounts", unfollowed := true, recurses := true, apart := false }
def QuorumCountsSaid : Prop := quorumCountsRow.holds Try.pinned (OpenSpec.ofChange quorumCountsSpec)

/-- ITS FALSE NEIGHBOUR: 'it returns false'. Refute it at one input. -/
def quorumCountsWrong : ChangeSpec := { name := "quorumCounts", fn := fun _ => fun
  | [d] => { results := [.lit (.bool false)], args := [d] }
  | _ => none }
def QuorumCountsWrongFalsely : Prop := quorumCountsRow.holds Try.pinned (OpenSpec.ofChange quorumCountsWrong)

/-- 'missivelaw30.QuorumLeaves': WHATEVER THE INPUT: true; the input reads as it did. -/
def quorumLeavesSpec : ChangeSpec := { name := "quorumLeaves", fn := fun _ => fun
  | [d1, d2, d3, d4] => { results := [.lit (.bool true)], args := [d1, d2, d3, d4] }
  | _ => none }
def quorumLeavesRow : OpenClaim := { program := "ytbcldkbacdnpiaa", sum := "a42bfc7dbe72634ffbba1216cccc0cb354a42908f71216ee6544d86b5343ac02", func := "missive/missivelaw30.QuorumLeaves", spec := "quorumLeaves", unfollowed := true, recurses := true, apart := false }
def QuorumLeavesSaid : Prop := quorumLeavesRow.holds Try.pinned (OpenSpec.ofChange quorumLeavesSpec)

/-- ITS FALSE NEIGHBOUR: 'it returns false'. Refute it at one input. -/
def quorumLeavesWrong : ChangeSpec := { name := "quorumLeaves", fn := fun _ => fun
  | [d1, d2, d3, d4] => { results := [.lit (.bool false)], args := [d1, d2, d3, d4] }
  | _ => none }
def QuorumLeavesWrongFalsely : Prop := quorumLeavesRow.holds Try.pinned (OpenSpec.ofChange quorumLeavesWrong)

/- THE SECOND FORM. 'bulk': how many values and letters a reading holds, each counted each time it is reached (what is shared counts as often as it is met; a slice's spare places count too). A statement '..UptoSaid' is the law's where the arguments, and the package variables that the reading takes, are together of bulk at most 1048576: NARROWER than '..Said'. Prove '..Said' where nothing that the law and all that it calls make is longer than what came in: it says more and counts as full. Else prove '..UptoSaid'. A law counts once. -/
mutual
def uptoBulk {H : Type} : DataW H → Nat
  | .lit (.string bytes) => bytes.length + 1
  | .lit _ => 1
  | .nil => 1
  | .ptr d => uptoBulk d + 1
  | .slice elems spare => uptoBulkAll elems + uptoBulkAll spare + 1
  | .agg parts => uptoBulkAll parts + 1
  | .iface _ d => uptoBulk d + 1
  | .map entries => uptoBulkEntries entries + 1
  | .held _ => 1
def uptoBulkAll {H : Type} : List (DataW H) → Nat
  | [] => 0
  | d :: r => uptoBulk d + uptoBulkAll r
def uptoBulkEntries {H : Type} : List (Lit × DataW H) → Nat
  | [] => 0
  | x :: r => uptoBulkEntry x + uptoBulkEntries r
def uptoBulkEntry {H : Type} : Lit × DataW H → Nat
  | (.string bytes, d) => bytes.length + uptoBulk d + 1
  | (_, d) => uptoBulk d + 1
 end
def uptoSmall : (H : Type) → List (DataW H) → Bool := fun _ ds => decide (uptoBulkAll ds ≤ 1048576)
def OpenSpec.upto (s : _root_.Go.ChangeSpec) : _root_.Go.OpenSpec := { _root_.Go.OpenSpec.ofChange s with cond := some uptoSmall }

/-- 'missivelaw30.QuorumStays', WHERE WHAT IT READS IS OF BULK AT MOST 1048576: true; the input reads as it did. -/
def quorumStaysUptoRow : OpenClaim := { program := "ytbcldkbacdnpiaa", sum := "a42bfc7dbe72634ffbba1216cccc0cb354a42908f71216ee6544d86b5343ac02", func := "missive/missivelaw30.QuorumStays", spec := "quorumStays", unfollowed := true, recurses := true, apart := false, narrowed := true }
def QuorumStaysUptoSaid : Prop := quorumStaysUptoRow.holds Try.pinned (OpenSpec.upto quorumStaysSpec)

/-- 'missivelaw30.QuorumLate', WHERE WHAT IT READS IS OF BULK AT MOST 1048576: true; the input reads as it did. -/
def quorumLateUptoRow : OpenClaim := { program := "ytbcldkbacdnpiaa", sum := "a42bfc7dbe72634ffbba1216cccc0cb354a42908f71216ee6544d86b5343ac02", func := "missive/missivelaw30.QuorumLate", spec := "quorumLate", unfollowed := true, recurses := true, apart := false, narrowed := true }
def QuorumLateUptoSaid : Prop := quorumLateUptoRow.holds Try.pinned (OpenSpec.upto quorumLateSpec)

/-- 'missivelaw30.QuorumTells', WHERE WHAT IT READS IS OF BULK AT MOST 1048576: true; the input reads as it did. -/
def quorumTellsUptoRow : OpenClaim := { program := "ytbcldkbacdnpiaa", sum := "a42bfc7dbe72634ffbba1216cccc0cb354a42908f71216ee6544d86b5343ac02", func := "missive/missivelaw30.QuorumTells", spec := "quorumTells", unfollowed := true, recurses := true, apart := false, narrowed := true }
def QuorumTellsUptoSaid : Prop := quorumTellsUptoRow.holds Try.pinned (OpenSpec.upto quorumTellsSpec)

/-- 'missivelaw30.QuorumNames', WHERE WHAT IT READS IS OF BULK AT MOST 1048576: true; the input reads as it did. -/
def quorumNamesUptoRow : OpenClaim := { program := "ytbcldkbacdnpiaa", sum := "a42bfc7dbe72634ffbba1216cccc0cb354a42908f71216ee6544d86b5343ac02", func := "missive/missivelaw30.QuorumNames", spec := "quorumNames", unfollowed := true, recurses := true, apart := false, narrowed := true }
def QuorumNamesUptoSaid : Prop := quorumNamesUptoRow.holds Try.pinned (OpenSpec.upto quorumNamesSpec)

/-- 'missivelaw30.QuorumCounts', WHERE WHAT IT READS IS OF BULK AT MOST 1048576: true; the input reads as it did. -/
def quorumCountsUptoRow : OpenClaim := { program := "ytbcldkbacdnpiaa", sum := "a42bfc7dbe72634ffbba1216cccc0cb354a42908f71216ee6544d86b5343ac02", func := "missive/missivelaw30.QuorumCounts", spec := "quorumCounts", unfollowed := true, recurses := true, apart := false, narrowed := true }
def QuorumCountsUptoSaid : Prop := quorumCountsUptoRow.holds Try.pinned (OpenSpec.upto quorumCountsSpec)

/-- 'missivelaw30.QuorumLeaves', WHERE WHAT IT READS IS OF BULK AT MOST 1048576: true; the input reads as it did. -/
def quorumLeavesUptoRow : OpenClaim := { program := "ytbcldkbacdnpiaa", sum := "a42bfc7dbe72634ffbba1216cccc0cb354a42908f71216ee6544d86b5343ac02", func := "missive/missivelaw30.QuorumLeaves", spec := "quorumLeaves", unfollowed := true, recurses := true, apart := false, narrowed := true }
def QuorumLeavesUptoSaid : Prop := quorumLeavesUptoRow.holds Try.pinned (OpenSpec.upto quorumLeavesSpec)

end Rows
end Go.Proofs.Ytbcldkbacdnpiaa
