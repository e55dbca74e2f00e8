/-
  No cell of these rows narrows 'for every input' (looked for: loops, veiled, ifaces, maps, wideKeys, modest, calm, conditions, laid).
  DERIVED. THE GIVEN ROWS OF THIS SEAT. 5 by the template 'for every input the law returns true; each argument reads behind the call as it read before'; 0 by the template 'total and deterministic' (their statements: YtlcgighhiacnpaaTotals.lean).
  GIVEN WITH THE SEED: the statements are not yours to turn. If you find one false, say at which input.
  Laid BY PROGRAM, IN A SANDBOX (cutbox-rows.mjs): the forced cells as the released guide's own fill.sh prints them over the translation e84326811dde49f4… (all of the seat's roots in one cut). By AI agents, Wed Nov 11 2026. No macro, syntax, notation, axiom, sorry.
-/
import Derived.Test.YtlcgighhiacnpaaChecked
import GoSem.Claim
import GoSem.ClaimJoined
import GoSem.ClaimMapViews
import Derived.JoinedTies
import Derived.KernelRfl
namespace Go.Proofs.Ytlcgighhiacnpaa
/- THE CELL 'sum', in the pinned program and in every row, IS THE sha256 OF THE DUMP (.gsa) THAT YtlcgighhiacnpaaProg.lean LOADS. Nothing in Lean hashes anything: it is a label: what it is worth is what the hold of that sum in a sandbox is worth. -/
noncomputable def Try.pinned : Pinned := { name := "ytlcgighhiacnpaa", sum := "e84326811dde49f4cca89ae6753adebdb102d40a5cbfc1e3ea2621181f3fc49f", checked := Try.checked }
namespace Rows
def none {H : Type} : Left H := { results := [], args := [] }

/-- 'hopperlaw03.WordsRuns': WHATEVER THE INPUT: true; the input reads as it did. -/
def wordsRunsSpec : ChangeSpec := { name := "wordsRuns", fn := fun _ => fun
  | [d1, d2, d3] => { results := [.lit (.bool true)], args := [d1, d2, d3] }
  | _ => none }
def wordsRunsRow : OpenClaim := { program := "ytlcgighhiacnpaa", sum := "e84326811dde49f4cca89ae6753adebdb102d40a5cbfc1e3ea2621181f3fc49f", func := "hopper/hopperlaw03.WordsRuns", spec := "wordsRuns", unfollowed := true, recurses := true, apart := false }
def WordsRunsSaid : Prop := wordsRunsRow.holds Try.pinned (OpenSpec.ofChange wordsRunsSpec)

/-- ITS FALSE NEIGHBOUR: 'it returns false'. Refute it at one input. -/
def wordsRunsWrong : ChangeSpec := { name := "wordsRuns", fn := fun _ => fun
  | [d1, d2, d3] => { results := [.lit (.bool false)], args := [d1, d2, d3] }
  | _ => none }
def WordsRunsWrongFalsely : Prop := wordsRunsRow.holds Try.pinned (OpenSpec.ofChange wordsRunsWrong)

/-- 'hopperlaw03.WordsChecks': WHATEVER THE INPUT: true; the input reads as it did. -/
def wordsChecksSpec : ChangeSpec := { name := "wordsChecks", fn := fun _ => fun
  | [d1, d2] => { results := [.lit (.bool true)], args := [d1, d2] }
  | _ => none }
def wordsChecksRow : OpenClaim := { program := "ytlcgighhiacnpaa", sum := "e84326811dde49f4cca89ae6753adebdb102d40a5cbfc1e3ea2621181f3fc49f", func := "hopper/hopperlaw03.WordsChecks", spec := "wordsChecks", unfollowed := true, recurses := true, apart := false }
def WordsChecksSaid : Prop := wordsChecksRow.holds Try.pinned (OpenSpec.ofChange wordsChecksSpec)

/-- ITS FALSE NEIGHBOUR: 'it returns false'. Refute it at one input. -/
def wordsChecksWrong : ChangeSpec := { name := "wordsChecks", fn := fun _ => fun
  | [d1, d2] => { results := [.lit (.bool false)], args := [d1, d2] }
  | _ => none }
def WordsChecksWrongFalsely : Prop := wordsChecksRow.holds Try.pinned (OpenSpec.ofChange wordsChecksWrong)

/-- 'hopperlaw03.WordsRaise': WHATEVER THE INPUT: true; the input reads as it did. -/
def wordsRaiseSpec : ChangeSpec := { name := "wordsRaise", fn := fun _ => fun
  | [d1, d2] => { results := [.lit (.bool true)], args := [d1, d2] }
  | _ => none }
def wordsRaiseRow : OpenClaim := { program := "ytlcgighhiacnpaa", sum := "e84326811dde49f4cca89ae6753adebdb102d40a5cbfc1e3ea2621181f3fc49f", func := "hopper/hopperlaw03.WordsRaise", spec := "wordsRaise", unfollowed := true, recurses := true, apart := false }
def WordsRaiseSaid : Prop := wordsRaiseRow.holds Try.pinned (OpenSpec.ofChange wordsRaiseSpec)

/-- ITS FALSE NEIGHBOUR: 'it returns false'. Refute it at one input. -/
def wordsRaiseWrong : ChangeSpec := { name := "wordsRaise", fn := fun _ => fun
  | [d1, d2] => { results := [.lit (.bool false)], args := [d1, d2] }
  | _ => none }
def WordsRaiseWrongFalsely : Prop := wordsRaiseRow.holds Try.pinned (OpenSpec.ofChange wordsRaiseWrong)

/-- 'hopperlaw03.WordsApart': WHATEVER THE INPUT: true; the input reads as it did. -/
def wordsApartSpec : ChangeSpec := { name := "wordsApart", fn := fun _ => fun
  | [d1, d2, d3] => { results := [.lit (.bool true)], args := [d1, d2, d3] }
  | _ => none }
def wordsApartRow : OpenClaim := { program := "ytlcgighhiacnpaa", sum := "e84326811dde49f4cca89ae6753adebdb102d40a5cbfc1e3ea2621181f3fc49f", func := "hopper/hopperlaw03.WordsApart", spec := "wordsApart", unfollowed := true, recurses := true, apart := false }
def WordsApartSaid : Prop := wordsApartRow.holds Try.pinned (OpenSpec.ofChange wordsApartSpec)

/-- ITS FALSE NEIGHBOUR: 'it returns false'. Refute it at one input. -/
def wordsApartWrong : ChangeSpec := { name := "wordsApart", fn := fun _ => fun
  | [d1, d2, d3] => { results := [.lit (.bool false)], args := [d1, d2, d3] }
  | _ => none }
def WordsApartWrongFalsely : Prop := wordsApartRow.holds Try.pinned (OpenSpec.ofChange wordsApartWrong)

/-- 'hopperlaw03.WordsIdle': WHATEVER THE INPUT: true; the input reads as it did. -/
def wordsIdleSpec : ChangeSpec := { name := "wordsIdle", fn := fun _ => fun
  | [d1, d2, d3] => { results := [.lit (.bool true)], args := [d1, d2, d3] }
  | _ => none }
def wordsIdleRow : OpenClaim := { program := "ytlcgighhiacnpaa", sum := "e84326811dde49f4cca89ae6753adebdb102d40a5cbfc1e3ea2621181f3fc49f", func := "hopper/hopperlaw03.WordsIdle", spec := "wordsIdle", unfollowed := true, recurses := true, apart := false }
def WordsIdleSaid : Prop := wordsIdleRow.holds Try.pinned (OpenSpec.ofChange wordsIdleSpec)

/-- ITS FALSE NEIGHBOUR: 'it returns false'. Refute it at one input. -/
def wordsIdleWrong : ChangeSpec := { name := "wordsIdle", fn := fun _ => fun
  | [d1, d2, d3] => { results := [.lit (.bool false)], args := [d1, d2, d3] }
  | _ => none }
def WordsIdleWrongFalsely : Prop := wordsIdleRow.holds Try.pinned (OpenSpec.ofChange wordsIdleWrong)

/- THE SECOND FORM. 'bulk': how many values and letters a reading holds, each counted each time it is reached (what is shared counts as often as it is met; a slice's spare places count too). A statement '..UptoSaid' is the law's where the arguments, and the package variables that the reading takes, are together of bulk at most 1048576: NARROWER than '..Said'. Prove '..Said' where nothing that the law and all that it calls make is longer than what came in: it says more and counts as full. Else prove '..UptoSaid'. A law counts once. -/
mutual
def uptoBulk {H : Type} : DataW H → Nat
  | .lit (.string bytes) => bytes.length + 1
  | .lit _ => 1
  | .nil => 1
  | .ptr d => uptoBulk d + 1
  | .slice elems spare => uptoBulkAll elems + uptoBulkAll spare + 1
  | .agg parts => uptoBulkAll parts + 1
  | .iface _ d => uptoBulk d + 1
  | .map entries => uptoBulkEntries entries + 1
  | .held _ => 1
def uptoBulkAll {H : Type} : List (DataW H) → Nat
  | [] => 0
  | d :: r => uptoBulk d + uptoBulkAll r
def uptoBulkEntries {H : Type} : List (Lit × DataW H) → Nat
  | [] => 0
  | x :: r => uptoBulkEntry x + uptoBulkEntries r
def uptoBulkEntry {H : Type} : Lit × DataW H → Nat
  | (.string bytes, d) => bytes.length + uptoBulk d + 1
  | (_, d) => uptoBulk d + 1
 end
def uptoSmall : (H : Type) → List (DataW H) → Bool := fun _ ds => decide (uptoBulkAll ds ≤ 1048576)
def OpenSpec.upto (s : _root_.Go.ChangeSpec) : _root_.Go.OpenSpec := { _root_.Go.OpenSpec.ofChange s with cond := some uptoSmall }

/-- 'hopperlaw03.WordsRuns', WHERE WHAT IT READS IS OF BULK AT MOST 1048576: true; the input reads as it did. -/
def wordsRunsUptoRow : OpenClaim := { program := "ytlcgighhiacnpaa", sum := "e84326811dde49f4cca89ae6753adebdb102d40a5cbfc1e3ea2621181f3fc49f", func := "hopper/hopperlaw03.WordsRuns", spec := "wordsRuns", unfollowed := true, recurses := true, apart := false, narrowed := true }
def WordsRunsUptoSaid : Prop := wordsRunsUptoRow.holds Try.pinned (OpenSpec.upto wordsRunsSpec)

/-- 'hopperlaw03.WordsChecks', WHERE WHAT IT READS IS OF BULK AT MOST 1048576: true; the input reads as it did. -/
def wordsChecksUptoRow : OpenClaim := { program := "ytlcgighhiacnpaa", sum := "e84326811dde49f4cca89ae6753adebdb102d40a5cbfc1e3ea2621181f3fc49f", func := "hopper/hopperlaw03.WordsChecks", spec := "wordsChecks", unfollowed := true, recurses := true, apart := false, narrowed := true }
def WordsChecksUptoSaid : Prop := wordsChecksUptoRow.holds Try.pinned (OpenSpec.upto wordsChecksSpec)

/-- 'hopperlaw03.WordsRaise', WHERE WHAT IT READS IS OF BULK AT MOST 1048576: true; the input reads as it did. -/
def wordsRaiseUptoRow : OpenClaim := { program := "ytlcgighhiacnpaa", sum := "e84326811dde49f4cca89ae6753adebdb102d40a5cbfc1e3ea2621181f3fc49f", func := "hopper/hopperlaw03.WordsRaise", spec := "wordsRaise", unfollowed := true, recurses := true, apart := false, narrowed := true }
def WordsRaiseUptoSaid : Prop := wordsRaiseUptoRow.holds Try.pinned (OpenSpec.upto wordsRaiseSpec)

/-- 'hopperlaw03.WordsApart', WHERE WHAT IT READS IS OF BULK AT MOST 1048576: true; the input reads as it did. -/
def wordsApartUptoRow : OpenClaim := { program := "ytlcgighhiacnpaa", sum := "e84326811dde49f4cca89ae6753adebdb102d40a5cbfc1e3ea2621181f3fc49f", func := "hopper/hopperlaw03.WordsApart", spec := "wordsApart", unfollowed := true, recurses := true, apart := false, narrowed := true }
def WordsApartUptoSaid : Prop := wordsApartUptoRow.holds Try.pinned (OpenSpec.upto wordsApartSpec)

/-- 'hopperlaw03.WordsIdle', WHERE WHAT IT READS IS OF BULK AT MOST 1048576: true; the input reads as it did. -/
def wordsIdleUptoRow : OpenClaim := { program := "ytlcgighhiacnpaa", sum := "e84326811dde49f4cca89ae6753adebdb102d40a5cbfc1e3ea2621181f3fc49f", func := "hopper/hopperlaw03.WordsIdle", spec := "wordsIdle", unfollowed := true, recurses := true, apart := false, narrowed := true }
def WordsIdleUptoSaid : Prop := wordsIdleUptoRow.holds Try.pinned (OpenSpec.upto wordsIdleSpec)

end Rows
end Go.Proofs.Ytlcgighhiacnpaa
