/-
  No cell of these rows narrows 'for every input' (looked for: loops, veiled, ifaces, maps, wideKeys, modest, calm, conditions, laid).
  DERIVED. THE GIVEN ROWS OF THIS SEAT. 5 by the template 'for every input the law returns true; each argument reads behind the call as it read before'; 0 by the template 'total and deterministic' (their statements: YtmmaklddbkdenaaTotals.lean).
  GIVEN WITH THE SEED: the statements are not yours to turn. If you find one false, say at which input.
  Laid BY PROGRAM, IN A SANDBOX (cutbox-rows.mjs): the forced cells as the released guide's own fill.sh prints them over the translation 163d6fd8c94a51c8… (all of the seat's roots in one cut). By AI agents, Wed Nov 11 2026. No macro, syntax, notation, axiom, sorry.
-/
import Derived.Test.YtmmaklddbkdenaaChecked
import GoSem.Claim
import GoSem.ClaimJoined
import GoSem.ClaimMapViews
import Derived.JoinedTies
import Derived.KernelRfl
namespace Go.Proofs.Ytmmaklddbkdenaa
/- THE CELL 'sum', in the pinned program and in every row, IS THE sha256 OF THE DUMP (.gsa) THAT YtmmaklddbkdenaaProg.lean LOADS. Nothing in Lean hashes anything: it is a label: what it is worth is what the hold of that sum in a sandbox is worth. -/
noncomputable def Try.pinned : Pinned := { name := "ytmmaklddbkdenaa", sum := "163d6fd8c94a51c8faebe8981c78ea59cbd3316d761932e6d973d6bdd670d7d6", checked := Try.checked }
namespace Rows
def none {H : Type} : Left H := { results := [], args := [] }

/-- 'hopperlaw10.EpochWaits': WHATEVER THE INPUT: true; the input reads as it did. -/
def epochWaitsSpec : ChangeSpec := { name := "epochWaits", fn := fun _ => fun
  | [d1, d2] => { results := [.lit (.bool true)], args := [d1, d2] }
  | _ => none }
def epochWaitsRow : OpenClaim := { program := "ytmmaklddbkdenaa", sum := "163d6fd8c94a51c8faebe8981c78ea59cbd3316d761932e6d973d6bdd670d7d6", func := "hopper/hopperlaw10.EpochWaits", spec := "epochWaits", unfollowed := true, recurses := true, apart := false }
def EpochWaitsSaid : Prop := epochWaitsRow.holds Try.pinned (OpenSpec.ofChange epochWaitsSpec)

/-- ITS FALSE NEIGHBOUR: 'it returns false'. Refute it at one input. -/
def epochWaitsWrong : ChangeSpec := { name := "epochWaits", fn := fun _ => fun
  | [d1, d2] => { results := [.lit (.bool false)], args := [d1, d2] }
  | _ => none }
def EpochWaitsWrongFalsely : Prop := epochWaitsRow.holds Try.pinned (OpenSpec.ofChange epochWaitsWrong)

/-- 'hopperlaw10.EpochBounds': WHATEVER THE INPUT: true; the input reads as it did. -/
def epochBoundsSpec : ChangeSpec := { name := "epochBounds", fn := fun _ => fun
  | [d1, d2] => { results := [.lit (.bool true)], args := [d1, d2] }
  | _ => none }
def epochBoundsRow : OpenClaim := { program := "ytmmaklddbkdenaa", sum := "163d6fd8c94a51c8faebe8981c78ea59cbd3316d761932e6d973d6bdd670d7d6", func := "hopper/hopperlaw10.EpochBounds", spec := "epochBounds", unfollowed := true, recurses := true, apart := false }
def EpochBoundsSaid : Prop := epochBoundsRow.holds Try.pinned (OpenSpec.ofChange epochBoundsSpec)

/-- ITS FALSE NEIGHBOUR: 'it returns false'. Refute it at one input. -/
def epochBoundsWrong : ChangeSpec := { name := "epochBounds", fn := fun _ => fun
  | [d1, d2] => { results := [.lit (.bool false)], args := [d1, d2] }
  | _ => none }
def EpochBoundsWrongFalsely : Prop := epochBoundsRow.holds Try.pinned (OpenSpec.ofChange epochBoundsWrong)

/-- 'hopperlaw10.EpochFull': WHATEVER THE INPUT: true; the input reads as it did. -/
def epochFullSpec : ChangeSpec := { name := "epochFull", fn := fun _ => fun
  | [d] => { results := [.lit (.bool true)], args := [d] }
  | _ => none }
def epochFullRow : OpenClaim := { program := "ytmmaklddbkdenaa", sum := "163d6fd8c94a51c8faebe8981c78ea59cbd3316d761932e6d973d6bdd670d7d6", func := "hopper/hopperlaw10.EpochFull", spec := "epochFull", unfollowed := true, recurses := true, apart := false }
def EpochFullSaid : Prop := epochFullRow.holds Try.pinned (OpenSpec.ofChange epochFullSpec)

/-- ITS FALSE NEIGHBOUR: 'it returns false'. Refute it at one input. -/
def epochFullWrong : ChangeSpec := { name := "epochFull", fn := fun _ => fun
  | [d] => { results := [.lit (.bool false)], args := [d] }
  | _ => none }
def EpochFullWrongFalsely : Prop := epochFullRow.holds Try.pinned (OpenSpec.ofChange epochFullWrong)

/-- 'hopperlaw10.EpochFrees': WHATEVER THE INPUT: true; the input reads as it did. -/
def epochFreesSpec : ChangeSpec := { name := "epochFrees", fn := fun _ => fun
  | [d1, d2] => { results := [.lit (.bool true)], args := [d1, d2] }
  | _ => none }
def epochFreesRow : OpenClaim := { program := "ytmmaklddbkdenaa", sum := "163d6fd8c94a51c8faebe8981c78ea59cbd3316d761932e6d973d6bdd670d7d6", func := "hopper/hopperlaw10.EpochFrees", spec := "epochFrees", unfollowed := true, recurses := true, apart := false }
def EpochFreesSaid : Prop := epochFreesRow.holds Try.pinned (OpenSpec.ofChange epochFreesSpec)

/-- ITS FALSE NEIGHBOUR: 'it returns false'. Refute it at one input. -/
def epochFreesWrong : ChangeSpec := { name := "epochFrees", fn := fun _ => fun
  | [d1, d2] => { results := [.lit (.bool false)], args := [d1, d2] }
  | _ => none }
def EpochFreesWrongFalsely : Prop := epochFreesRow.holds Try.pinned (OpenSpec.ofChange epochFreesWrong)

/-- 'hopperlaw10.EpochPlays': WHATEVER THE INPUT: true; the input reads as it did. -/
def epochPlaysSpec : ChangeSpec := { name := "epochPlays", fn := fun _ => fun
  | [d1, d2] => { results := [.lit (.bool true)], args := [d1, d2] }
  | _ => none }
def epochPlaysRow : OpenClaim := { program := "ytmmaklddbkdenaa", sum := "163d6fd8c94a51c8faebe8981c78ea59cbd3316d761932e6d973d6bdd670d7d6", func := "hopper/hopperlaw10.EpochPlays", spec := "epochPlays", unfollowed := true, recurses := true, apart := false }
def EpochPlaysSaid : Prop := epochPlaysRow.holds Try.pinned (OpenSpec.ofChange epochPlaysSpec)

/-- ITS FALSE NEIGHBOUR: 'it returns false'. Refute it at one input. -/
def epochPlaysWrong : ChangeSpec := { name := "epochPlays", fn := fun _ => fun
  | [d1, d2] => { results := [.lit (.bool false)], args := [d1, d2] }
  | _ => none }
def EpochPlaysWrongFalsely : Prop := epochPlaysRow.holds Try.pinned (OpenSpec.ofChange epochPlaysWrong)

/- THE SECOND FORM. 'bulk': how many values and letters a reading holds, each counted each time it is reached (what is shared counts as often as it is met; a slice's spare places count too). A statement '..UptoSaid' is the law's where the arguments, and the package variables that the reading takes, are together of bulk at most 1048576: NARROWER than '..Said'. Prove '..Said' where nothing that the law and all that it calls make is longer than what came in: it says more and counts as full. Else prove '..UptoSaid'. A law counts once. -/
mutual
def uptoBulk {H : Type} : DataW H → Nat
  | .lit (.string bytes) => bytes.length + 1
  | .lit _ => 1
  | .nil => 1
  | .ptr d => uptoBulk d + 1
  | .slice elems spare => uptoBulkAll elems + uptoBulkAll spare + 1
  | .agg parts => uptoBulkAll parts + 1
  | .iface _ d => uptoBulk d + 1
  | .map entries => uptoBulkEntries entries + 1
  | .held _ => 1
def uptoBulkAll {H : Type} : List (DataW H) → Nat
  | [] => 0
  | d :: r => uptoBulk d + uptoBulkAll r
def uptoBulkEntries {H : Type} : List (Lit × DataW H) → Nat
  | [] => 0
  | x :: r => uptoBulkEntry x + uptoBulkEntries r
def uptoBulkEntry {H : Type} : Lit × DataW H → Nat
  | (.string bytes, d) => bytes.length + uptoBulk d + 1
  | (_, d) => uptoBulk d + 1
 end
def uptoSmall : (H : Type) → List (DataW H) → Bool := fun _ ds => decide (uptoBulkAll ds ≤ 1048576)
def OpenSpec.upto (s : _root_.Go.ChangeSpec) : _root_.Go.OpenSpec := { _root_.Go.OpenSpec.ofChange s with cond := some uptoSmall }

/-- 'hopperlaw10.EpochWaits', WHERE WHAT IT READS IS OF BULK AT MOST 1048576: true; the input reads as it did. -/
def epochWaitsUptoRow : OpenClaim := { program := "ytmmaklddbkdenaa", sum := "163d6fd8c94a51c8faebe8981c78ea59cbd3316d761932e6d973d6bdd670d7d6", func := "hopper/hopperlaw10.EpochWaits", spec := "epochWaits", unfollowed := true, recurses := true, apart := false, narrowed := true }
def EpochWaitsUptoSaid : Prop := epochWaitsUptoRow.holds Try.pinned (OpenSpec.upto epochWaitsSpec)

/-- 'hopperlaw10.EpochBounds', WHERE WHAT IT READS IS OF BULK AT MOST 1048576: true; the input reads as it did. -/
def epochBoundsUptoRow : OpenClaim := { program := "ytmmaklddbkdenaa", sum := "163d6fd8c94a51c8faebe8981c78ea59cbd3316d761932e6d973d6bdd670d7d6", func := "hopper/hopperlaw10.EpochBounds", spec := "epochBounds", unfollowed := true, recurses := true, apart := false, narrowed := true }
def EpochBoundsUptoSaid : Prop := epochBoundsUptoRow.holds Try.pinned (OpenSpec.upto epochBoundsSpec)

/-- 'hopperlaw10.EpochFull', WHERE WHAT IT READS IS OF BULK AT MOST 1048576: true; the input reads as it did. -/
def epochFullUptoRow : OpenClaim := { program := "ytmmaklddbkdenaa", sum := "163d6fd8c94a51c8faebe8981c78ea59cbd3316d761932e6d973d6bdd670d7d6", func := "hopper/hopperlaw10.EpochFull", spec := "epochFull", unfollowed := true, recurses := true, apart := false, narrowed := true }
def EpochFullUptoSaid : Prop := epochFullUptoRow.holds Try.pinned (OpenSpec.upto epochFullSpec)

/-- 'hopperlaw10.EpochFrees', WHERE WHAT IT READS IS OF BULK AT MOST 1048576: true; the input reads as it did. -/
def epochFreesUptoRow : OpenClaim := { program := "ytmmaklddbkdenaa", sum := "163d6fd8c94a51c8faebe8981c78ea59cbd3316d761932e6d973d6bdd670d7d6", func := "hopper/hopperlaw10.EpochFrees", spec := "epochFrees", unfollowed := true, recurses := true, apart := false, narrowed := true }
def EpochFreesUptoSaid : Prop := epochFreesUptoRow.holds Try.pinned (OpenSpec.upto epochFreesSpec)

/-- 'hopperlaw10.EpochPlays', WHERE WHAT IT READS IS OF BULK AT MOST 1048576: true; the input reads as it did. -/
def epochPlaysUptoRow : OpenClaim := { program := "ytmmaklddbkdenaa", sum := "163d6fd8c94a51c8faebe8981c78ea59cbd3316d761932e6d973d6bdd670d7d6", func := "hopper/hopperlaw10.EpochPlays", spec := "epochPlays", unfollowed := true, recurses := true, apart := false, narrowed := true }
def EpochPlaysUptoSaid : Prop := epochPlaysUptoRow.holds Try.pinned (OpenSpec.upto epochPlaysSpec)

end Rows
end Go.Proofs.Ytmmaklddbkdenaa
