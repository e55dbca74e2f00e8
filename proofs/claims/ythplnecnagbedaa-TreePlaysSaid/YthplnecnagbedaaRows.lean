/-
  No cell of these rows narrows 'for every input' (looked for: loops, veiled, ifaces, maps, wideKeys, modest, calm, conditions, laid).
  DERIVED. THE GIVEN ROWS OF THIS SEAT. 12 by the template 'for every input the law returns true; each argument reads behind the call as it read before'; 0 by the template 'total and deterministic' (their statements: YthplnecnagbedaaTotals.lean).
  GIVEN WITH THE SEED: the statements are not yours to turn. If you find one false, say at which input.
  Laid BY PROGRAM, IN A SANDBOX (cutbox-rows.mjs): the forced cells as the released guide's own fill.sh prints them over the translation d60150d86629eae6… (all of the seat's roots in one cut). By AI agents, Wed Nov 11 2026. No macro, syntax, notation, axiom, sorry.
-/
import Derived.Test.YthplnecnagbedaaChecked
import GoSem.Claim
import GoSem.ClaimJoined
import GoSem.ClaimMapViews
import Derived.JoinedTies
import Derived.KernelRfl
namespace Go.Proofs.Ythplnecnagbedaa
/- THE CELL 'sum', in the pinned program and in every row, IS THE sha256 OF THE DUMP (.gsa) THAT YthplnecnagbedaaProg.lean LOADS. Nothing in Lean hashes anything: it is a label: what it is worth is what the hold of that sum in a sandbox is worth. -/
noncomputable def Try.pinned : Pinned := { name := "ythplnecnagbedaa", sum := "d60150d86629eae671ca01a38d53aae343a7fc3461aa0221478e19cf4bc658ab", checked := Try.checked }
namespace Rows
def none {H : Type} : Left H := { results := [], args := [] }

/-- 'hopperlaw12.NodeWords': WHATEVER THE INPUT: true; the input reads as it did. -/
def nodeWordsSpec : ChangeSpec := { name := "nodeWords", fn := fun _ => fun
  | [d1, d2] => { results := [.lit (.bool true)], args := [d1, d2] }
  | _ => none }
def nodeWordsRow : OpenClaim := { program := "ythplnecnagbedaa", sum := "d60150d86629eae671ca01a38d53aae343a7fc3461aa0221478e19cf4bc658ab", func := "hopper/hopperlaw12.NodeWords", spec := "nodeWords", apart := false }
def NodeWordsSaid : Prop := nodeWordsRow.holds Try.pinned (OpenSpec.ofChange nodeWordsSpec)

/-- ITS FALSE NEIGHBOUR: 'it returns false'. Refute it at one input. -/
def nodeWordsWrong : ChangeSpec := { name := "nodeWords", fn := fun _ => fun
  | [d1, d2] => { results := [.lit (.bool false)], args := [d1, d2] }
  | _ => none }
def NodeWordsWrongFalsely : Prop := nodeWordsRow.holds Try.pinned (OpenSpec.ofChange nodeWordsWrong)

/-- 'hopperlaw12.NodeUndone': WHATEVER THE INPUT: true; the input reads as it did. -/
def nodeUndoneSpec : ChangeSpec := { name := "nodeUndone", fn := fun _ => fun
  | [d1, d2, d3] => { results := [.lit (.bool true)], args := [d1, d2, d3] }
  | _ => none }
def nodeUndoneRow : OpenClaim := { program := "ythplnecnagbedaa", sum := "d60150d86629eae671ca01a38d53aae343a7fc3461aa0221478e19cf4bc658ab", func := "hopper/hopperlaw12.NodeUndone", spec := "nodeUndone", apart := false }
def NodeUndoneSaid : Prop := nodeUndoneRow.holds Try.pinned (OpenSpec.ofChange nodeUndoneSpec)

/-- ITS FALSE NEIGHBOUR: 'it returns false'. Refute it at one input. -/
def nodeUndoneWrong : ChangeSpec := { name := "nodeUndone", fn := fun _ => fun
  | [d1, d2, d3] => { results := [.lit (.bool false)], args := [d1, d2, d3] }
  | _ => none }
def NodeUndoneWrongFalsely : Prop := nodeUndoneRow.holds Try.pinned (OpenSpec.ofChange nodeUndoneWrong)

/-- 'hopperlaw12.NodeOrder': WHATEVER THE INPUT: true; the input reads as it did. -/
def nodeOrderSpec : ChangeSpec := { name := "nodeOrder", fn := fun _ => fun
  | [d] => { results := [.lit (.bool true)], args := [d] }
  | _ => none }
def nodeOrderRow : OpenClaim := { program := "ythplnecnagbedaa", sum := "d60150d86629eae671ca01a38d53aae343a7fc3461aa0221478e19cf4bc658ab", func := "hopper/hopperlaw12.NodeOrder", spec := "nodeOrder", unfollowed := true, recurses := true, apart := false }
def NodeOrderSaid : Prop := nodeOrderRow.holds Try.pinned (OpenSpec.ofChange nodeOrderSpec)

/-- ITS FALSE NEIGHBOUR: 'it returns false'. Refute it at one input. -/
def nodeOrderWrong : ChangeSpec := { name := "nodeOrder", fn := fun _ => fun
  | [d] => { results := [.lit (.bool false)], args := [d] }
  | _ => none }
def NodeOrderWrongFalsely : Prop := nodeOrderRow.holds Try.pinned (OpenSpec.ofChange nodeOrderWrong)

/-- 'hopperlaw12.NodeHalves': WHATEVER THE INPUT: true; the input reads as it did. -/
def nodeHalvesSpec : ChangeSpec := { name := "nodeHalves", fn := fun _ => fun
  | [d1, d2] => { results := [.lit (.bool true)], args := [d1, d2] }
  | _ => none }
def nodeHalvesRow : OpenClaim := { program := "ythplnecnagbedaa", sum := "d60150d86629eae671ca01a38d53aae343a7fc3461aa0221478e19cf4bc658ab", func := "hopper/hopperlaw12.NodeHalves", spec := "nodeHalves", unfollowed := true, recurses := true, apart := false }
def NodeHalvesSaid : Prop := nodeHalvesRow.holds Try.pinned (OpenSpec.ofChange nodeHalvesSpec)

/-- ITS FALSE NEIGHBOUR: 'it returns false'. Refute it at one input. -/
def nodeHalvesWrong : ChangeSpec := { name := "nodeHalves", fn := fun _ => fun
  | [d1, d2] => { results := [.lit (.bool false)], args := [d1, d2] }
  | _ => none }
def NodeHalvesWrongFalsely : Prop := nodeHalvesRow.holds Try.pinned (OpenSpec.ofChange nodeHalvesWrong)

/-- 'hopperlaw12.NodeCounts': WHATEVER THE INPUT: true; the input reads as it did. -/
def nodeCountsSpec : ChangeSpec := { name := "nodeCounts", fn := fun _ => fun
  | [d] => { results := [.lit (.bool true)], args := [d] }
  | _ => none }
def nodeCountsRow : OpenClaim := { program := "ythplnecnagbedaa", sum := "d60150d86629eae671ca01a38d53aae343a7fc3461aa0221478e19cf4bc658ab", func := "hopper/hopperlaw12.NodeCounts", spec := "nodeCounts", unfollowed := true, recurses := true, apart := false }
def NodeCountsSaid : Prop := nodeCountsRow.holds Try.pinned (OpenSpec.ofChange nodeCountsSpec)

/-- ITS FALSE NEIGHBOUR: 'it returns false'. Refute it at one input. -/
def nodeCountsWrong : ChangeSpec := { name := "nodeCounts", fn := fun _ => fun
  | [d] => { results := [.lit (.bool false)], args := [d] }
  | _ => none }
def NodeCountsWrongFalsely : Prop := nodeCountsRow.holds Try.pinned (OpenSpec.ofChange nodeCountsWrong)

/-- 'hopperlaw12.NodePlays': WHATEVER THE INPUT: true; the input reads as it did. -/
def nodePlaysSpec : ChangeSpec := { name := "nodePlays", fn := fun _ => fun
  | [d] => { results := [.lit (.bool true)], args := [d] }
  | _ => none }
def nodePlaysRow : OpenClaim := { program := "ythplnecnagbedaa", sum := "d60150d86629eae671ca01a38d53aae343a7fc3461aa0221478e19cf4bc658ab", func := "hopper/hopperlaw12.NodePlays", spec := "nodePlays", unfollowed := true, recurses := true, apart := false }
def NodePlaysSaid : Prop := nodePlaysRow.holds Try.pinned (OpenSpec.ofChange nodePlaysSpec)

/-- ITS FALSE NEIGHBOUR: 'it returns false'. Refute it at one input. -/
def nodePlaysWrong : ChangeSpec := { name := "nodePlays", fn := fun _ => fun
  | [d] => { results := [.lit (.bool false)], args := [d] }
  | _ => none }
def NodePlaysWrongFalsely : Prop := nodePlaysRow.holds Try.pinned (OpenSpec.ofChange nodePlaysWrong)

/-- 'hopperlaw13.TreeMany': WHATEVER THE INPUT: true; the input reads as it did. -/
def treeManySpec : ChangeSpec := { name := "treeMany", fn := fun _ => fun
  | [d1, d2] => { results := [.lit (.bool true)], args := [d1, d2] }
  | _ => none }
def treeManyRow : OpenClaim := { program := "ythplnecnagbedaa", sum := "d60150d86629eae671ca01a38d53aae343a7fc3461aa0221478e19cf4bc658ab", func := "hopper/hopperlaw13.TreeMany", spec := "treeMany", inPlace := ["slices.overlaps[*hopper/tree.leaf]"], unfollowed := true, recurses := true, apart := false }
def TreeManySaid : Prop := treeManyRow.holds Try.pinned (OpenSpec.ofChange treeManySpec)

/-- ITS FALSE NEIGHBOUR: 'it returns false'. Refute it at one input. -/
def treeManyWrong : ChangeSpec := { name := "treeMany", fn := fun _ => fun
  | [d1, d2] => { results := [.lit (.bool false)], args := [d1, d2] }
  | _ => none }
def TreeManyWrongFalsely : Prop := treeManyRow.holds Try.pinned (OpenSpec.ofChange treeManyWrong)

/-- 'hopperlaw13.TreeUnseen': WHATEVER THE INPUT: true; the input reads as it did. -/
def treeUnseenSpec : ChangeSpec := { name := "treeUnseen", fn := fun _ => fun
  | [d1, d2, d3] => { results := [.lit (.bool true)], args := [d1, d2, d3] }
  | _ => none }
def treeUnseenRow : OpenClaim := { program := "ythplnecnagbedaa", sum := "d60150d86629eae671ca01a38d53aae343a7fc3461aa0221478e19cf4bc658ab", func := "hopper/hopperlaw13.TreeUnseen", spec := "treeUnseen", inPlace := ["slices.overlaps[*hopper/tree.leaf]"], unfollowed := true, recurses := true, apart := false }
def TreeUnseenSaid : Prop := treeUnseenRow.holds Try.pinned (OpenSpec.ofChange treeUnseenSpec)

/-- ITS FALSE NEIGHBOUR: 'it returns false'. Refute it at one input. -/
def treeUnseenWrong : ChangeSpec := { name := "treeUnseen", fn := fun _ => fun
  | [d1, d2, d3] => { results := [.lit (.bool false)], args := [d1, d2, d3] }
  | _ => none }
def TreeUnseenWrongFalsely : Prop := treeUnseenRow.holds Try.pinned (OpenSpec.ofChange treeUnseenWrong)

/-- 'hopperlaw13.TreeOrder': WHATEVER THE INPUT: true; the input reads as it did. -/
def treeOrderSpec : ChangeSpec := { name := "treeOrder", fn := fun _ => fun
  | [d1, d2] => { results := [.lit (.bool true)], args := [d1, d2] }
  | _ => none }
def treeOrderRow : OpenClaim := { program := "ythplnecnagbedaa", sum := "d60150d86629eae671ca01a38d53aae343a7fc3461aa0221478e19cf4bc658ab", func := "hopper/hopperlaw13.TreeOrder", spec := "treeOrder", inPlace := ["slices.overlaps[*hopper/tree.leaf]"], unfollowed := true, recurses := true, apart := false }
def TreeOrderSaid : Prop := treeOrderRow.holds Try.pinned (OpenSpec.ofChange treeOrderSpec)

/-- ITS FALSE NEIGHBOUR: 'it returns false'. Refute it at one input. -/
def treeOrderWrong : ChangeSpec := { name := "treeOrder", fn := fun _ => fun
  | [d1, d2] => { results := [.lit (.bool false)], args := [d1, d2] }
  | _ => none }
def TreeOrderWrongFalsely : Prop := treeOrderRow.holds Try.pinned (OpenSpec.ofChange treeOrderWrong)

/-- 'hopperlaw13.TreeParts': WHATEVER THE INPUT: true; the input reads as it did. -/
def treePartsSpec : ChangeSpec := { name := "treeParts", fn := fun _ => fun
  | [d1, d2] => { results := [.lit (.bool true)], args := [d1, d2] }
  | _ => none }
def treePartsRow : OpenClaim := { program := "ythplnecnagbedaa", sum := "d60150d86629eae671ca01a38d53aae343a7fc3461aa0221478e19cf4bc658ab", func := "hopper/hopperlaw13.TreeParts", spec := "treeParts", inPlace := ["slices.overlaps[*hopper/tree.leaf]"], unfollowed := true, recurses := true, apart := false }
def TreePartsSaid : Prop := treePartsRow.holds Try.pinned (OpenSpec.ofChange treePartsSpec)

/-- ITS FALSE NEIGHBOUR: 'it returns false'. Refute it at one input. -/
def treePartsWrong : ChangeSpec := { name := "treeParts", fn := fun _ => fun
  | [d1, d2] => { results := [.lit (.bool false)], args := [d1, d2] }
  | _ => none }
def TreePartsWrongFalsely : Prop := treePartsRow.holds Try.pinned (OpenSpec.ofChange treePartsWrong)

/-- 'hopperlaw13.TreePlays': WHATEVER THE INPUT: true; the input reads as it did. -/
def treePlaysSpec : ChangeSpec := { name := "treePlays", fn := fun _ => fun
  | [d] => { results := [.lit (.bool true)], args := [d] }
  | _ => none }
def treePlaysRow : OpenClaim := { program := "ythplnecnagbedaa", sum := "d60150d86629eae671ca01a38d53aae343a7fc3461aa0221478e19cf4bc658ab", func := "hopper/hopperlaw13.TreePlays", spec := "treePlays", inPlace := ["slices.overlaps[*hopper/tree.leaf]"], unfollowed := true, recurses := true, apart := false }
def TreePlaysSaid : Prop := treePlaysRow.holds Try.pinned (OpenSpec.ofChange treePlaysSpec)

/-- ITS FALSE NEIGHBOUR: 'it returns false'. Refute it at one input. -/
def treePlaysWrong : ChangeSpec := { name := "treePlays", fn := fun _ => fun
  | [d] => { results := [.lit (.bool false)], args := [d] }
  | _ => none }
def TreePlaysWrongFalsely : Prop := treePlaysRow.holds Try.pinned (OpenSpec.ofChange treePlaysWrong)

/-- 'hopperlaw13.TreeMisses': WHATEVER THE INPUT: true; the input reads as it did. -/
def treeMissesSpec : ChangeSpec := { name := "treeMisses", fn := fun _ => fun
  | [d1, d2, d3] => { results := [.lit (.bool true)], args := [d1, d2, d3] }
  | _ => none }
def treeMissesRow : OpenClaim := { program := "ythplnecnagbedaa", sum := "d60150d86629eae671ca01a38d53aae343a7fc3461aa0221478e19cf4bc658ab", func := "hopper/hopperlaw13.TreeMisses", spec := "treeMisses", inPlace := ["slices.overlaps[*hopper/tree.leaf]"], unfollowed := true, recurses := true, apart := false }
def TreeMissesSaid : Prop := treeMissesRow.holds Try.pinned (OpenSpec.ofChange treeMissesSpec)

/-- ITS FALSE NEIGHBOUR: 'it returns false'. Refute it at one input. -/
def treeMissesWrong : ChangeSpec := { name := "treeMisses", fn := fun _ => fun
  | [d1, d2, d3] => { results := [.lit (.bool false)], args := [d1, d2, d3] }
  | _ => none }
def TreeMissesWrongFalsely : Prop := treeMissesRow.holds Try.pinned (OpenSpec.ofChange treeMissesWrong)

/- THE SECOND FORM. 'bulk': how many values and letters a reading holds, each counted each time it is reached (what is shared counts as often as it is met; a slice's spare places count too). A statement '..UptoSaid' is the law's where the arguments, and the package variables that the reading takes, are together of bulk at most 1048576: NARROWER than '..Said'. Prove '..Said' where nothing that the law and all that it calls make is longer than what came in: it says more and counts as full. Else prove '..UptoSaid'. A law counts once. -/
mutual
def uptoBulk {H : Type} : DataW H → Nat
  | .lit (.string bytes) => bytes.length + 1
  | .lit _ => 1
  | .nil => 1
  | .ptr d => uptoBulk d + 1
  | .slice elems spare => uptoBulkAll elems + uptoBulkAll spare + 1
  | .agg parts => uptoBulkAll parts + 1
  | .iface _ d => uptoBulk d + 1
  | .map entries => uptoBulkEntries entries + 1
  | .held _ => 1
def uptoBulkAll {H : Type} : List (DataW H) → Nat
  | [] => 0
  | d :: r => uptoBulk d + uptoBulkAll r
def uptoBulkEntries {H : Type} : List (Lit × DataW H) → Nat
  | [] => 0
  | x :: r => uptoBulkEntry x + uptoBulkEntries r
def uptoBulkEntry {H : Type} : Lit × DataW H → Nat
  | (.string bytes, d) => bytes.length + uptoBulk d + 1
  | (_, d) => uptoBulk d + 1
 end
def uptoSmall : (H : Type) → List (DataW H) → Bool := fun _ ds => decide (uptoBulkAll ds ≤ 1048576)
def OpenSpec.upto (s : _root_.Go.ChangeSpec) : _root_.Go.OpenSpec := { _root_.Go.OpenSpec.ofChange s with cond := some uptoSmall }

/-- 'hopperlaw12.NodeWords', WHERE WHAT IT READS IS OF BULK AT MOST 1048576: true; the input reads as it did. -/
def nodeWordsUptoRow : OpenClaim := { program := "ythplnecnagbedaa", sum := "d60150d86629eae671ca01a38d53aae343a7fc3461aa0221478e19cf4bc658ab", func := "hopper/hopperlaw12.NodeWords", spec := "nodeWords", apart := false, narrowed := true }
def NodeWordsUptoSaid : Prop := nodeWordsUptoRow.holds Try.pinned (OpenSpec.upto nodeWordsSpec)

/-- 'hopperlaw12.NodeUndone', WHERE WHAT IT READS IS OF BULK AT MOST 1048576: true; the input reads as it did. -/
def nodeUndoneUptoRow : OpenClaim := { program := "ythplnecnagbedaa", sum := "d60150d86629eae671ca01a38d53aae343a7fc3461aa0221478e19cf4bc658ab", func := "hopper/hopperlaw12.NodeUndone", spec := "nodeUndone", apart := false, narrowed := true }
def NodeUndoneUptoSaid : Prop := nodeUndoneUptoRow.holds Try.pinned (OpenSpec.upto nodeUndoneSpec)

/-- 'hopperlaw12.NodeOrder', WHERE WHAT IT READS IS OF BULK AT MOST 1048576: true; the input reads as it did. -/
def nodeOrderUptoRow : OpenClaim := { program := "ythplnecnagbedaa", sum := "d60150d86629eae671ca01a38d53aae343a7fc3461aa0221478e19cf4bc658ab", func := "hopper/hopperlaw12.NodeOrder", spec := "nodeOrder", unfollowed := true, recurses := true, apart := false, narrowed := true }
def NodeOrderUptoSaid : Prop := nodeOrderUptoRow.holds Try.pinned (OpenSpec.upto nodeOrderSpec)

/-- 'hopperlaw12.NodeHalves', WHERE WHAT IT READS IS OF BULK AT MOST 1048576: true; the input reads as it did. -/
def nodeHalvesUptoRow : OpenClaim := { program := "ythplnecnagbedaa", sum := "d60150d86629eae671ca01a38d53aae343a7fc3461aa0221478e19cf4bc658ab", func := "hopper/hopperlaw12.NodeHalves", spec := "nodeHalves", unfollowed := true, recurses := true, apart := false, narrowed := true }
def NodeHalvesUptoSaid : Prop := nodeHalvesUptoRow.holds Try.pinned (OpenSpec.upto nodeHalvesSpec)

/-- 'hopperlaw12.NodeCounts', WHERE WHAT IT READS IS OF BULK AT MOST 1048576: true; the input reads as it did. -/
def nodeCountsUptoRow : OpenClaim := { program := "ythplnecnagbedaa", sum := "d60150d86629eae671ca01a38d53aae343a7fc3461aa0221478e19cf4bc658ab", func := "hopper/hopperlaw12.NodeCounts", spec := "nodeCounts", unfollowed := true, recurses := true, apart := false, narrowed := true }
def NodeCountsUptoSaid : Prop := nodeCountsUptoRow.holds Try.pinned (OpenSpec.upto nodeCountsSpec)

/-- 'hopperlaw12.NodePlays', WHERE WHAT IT READS IS OF BULK AT MOST 1048576: true; the input reads as it did. -/
def nodePlaysUptoRow : OpenClaim := { program := "ythplnecnagbedaa", sum := "d60150d86629eae671ca01a38d53aae343a7fc3461aa0221478e19cf4bc658ab", func := "hopper/hopperlaw12.NodePlays", spec := "nodePlays", unfollowed := true, recurses := true, apart := false, narrowed := true }
def NodePlaysUptoSaid : Prop := nodePlaysUptoRow.holds Try.pinned (OpenSpec.upto nodePlaysSpec)

/-- 'hopperlaw13.TreeMany', WHERE WHAT IT READS IS OF BULK AT MOST 1048576: true; the input reads as it did. -/
def treeManyUptoRow : OpenClaim := { program := "ythplnecnagbedaa", sum := "d60150d86629eae671ca01a38d53aae343a7fc3461aa0221478e19cf4bc658ab", func := "hopper/hopperlaw13.TreeMany", spec := "treeMany", inPlace := ["slices.overlaps[*hopper/tree.leaf]"], unfollowed := true, recurses := true, apart := false, narrowed := true }
def TreeManyUptoSaid : Prop := treeManyUptoRow.holds Try.pinned (OpenSpec.upto treeManySpec)

/-- 'hopperlaw13.TreeUnseen', WHERE WHAT IT READS IS OF BULK AT MOST 1048576: true; the input reads as it did. -/
def treeUnseenUptoRow : OpenClaim := { program := "ythplnecnagbedaa", sum := "d60150d86629eae671ca01a38d53aae343a7fc3461aa0221478e19cf4bc658ab", func := "hopper/hopperlaw13.TreeUnseen", spec := "treeUnseen", inPlace := ["slices.overlaps[*hopper/tree.leaf]"], unfollowed := true, recurses := true, apart := false, narrowed := true }
def TreeUnseenUptoSaid : Prop := treeUnseenUptoRow.holds Try.pinned (OpenSpec.upto treeUnseenSpec)

/-- 'hopperlaw13.TreeOrder', WHERE WHAT IT READS IS OF BULK AT MOST 1048576: true; the input reads as it did. -/
def treeOrderUptoRow : OpenClaim := { program := "ythplnecnagbedaa", sum := "d60150d86629eae671ca01a38d53aae343a7fc3461aa0221478e19cf4bc658ab", func := "hopper/hopperlaw13.TreeOrder", spec := "treeOrder", inPlace := ["slices.overlaps[*hopper/tree.leaf]"], unfollowed := true, recurses := true, apart := false, narrowed := true }
def TreeOrderUptoSaid : Prop := treeOrderUptoRow.holds Try.pinned (OpenSpec.upto treeOrderSpec)

/-- 'hopperlaw13.TreeParts', WHERE WHAT IT READS IS OF BULK AT MOST 1048576: true; the input reads as it did. -/
def treePartsUptoRow : OpenClaim := { program := "ythplnecnagbedaa", sum := "d60150d86629eae671ca01a38d53aae343a7fc3461aa0221478e19cf4bc658ab", func := "hopper/hopperlaw13.TreeParts", spec := "treeParts", inPlace := ["slices.overlaps[*hopper/tree.leaf]"], unfollowed := true, recurses := true, apart := false, narrowed := true }
def TreePartsUptoSaid : Prop := treePartsUptoRow.holds Try.pinned (OpenSpec.upto treePartsSpec)

/-- 'hopperlaw13.TreePlays', WHERE WHAT IT READS IS OF BULK AT MOST 1048576: true; the input reads as it did. -/
def treePlaysUptoRow : OpenClaim := { program := "ythplnecnagbedaa", sum := "d60150d86629eae671ca01a38d53aae343a7fc3461aa0221478e19cf4bc658ab", func := "hopper/hopperlaw13.TreePlays", spec := "treePlays", inPlace := ["slices.overlaps[*hopper/tree.leaf]"], unfollowed := true, recurses := true, apart := false, narrowed := true }
def TreePlaysUptoSaid : Prop := treePlaysUptoRow.holds Try.pinned (OpenSpec.upto treePlaysSpec)

/-- 'hopperlaw13.TreeMisses', WHERE WHAT IT READS IS OF BULK AT MOST 1048576: true; the input reads as it did. -/
def treeMissesUptoRow : OpenClaim := { program := "ythplnecnagbedaa", sum := "d60150d86629eae671ca01a38d53aae343a7fc3461aa0221478e19cf4bc658ab", func := "hopper/hopperlaw13.TreeMisses", spec := "treeMisses", inPlace := ["slices.overlaps[*hopper/tree.leaf]"], unfollowed := true, recurses := true, apart := false, narrowed := true }
def TreeMissesUptoSaid : Prop := treeMissesUptoRow.holds Try.pinned (OpenSpec.upto treeMissesSpec)

end Rows
end Go.Proofs.Ythplnecnagbedaa
