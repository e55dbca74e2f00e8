/-
  No cell of these rows narrows 'for every input' (looked for: loops, veiled, ifaces, maps, wideKeys, modest, calm, conditions, laid).
  DERIVED. THE GIVEN ROWS OF THIS SEAT. 5 by the template 'for every input the law returns true; each argument reads behind the call as it read before'; 0 by the template 'total and deterministic' (their statements: YtnbjbjpfleiogaaTotals.lean).
  GIVEN WITH THE SEED: the statements are not yours to turn. If you find one false, say at which input.
  Laid BY PROGRAM, IN A SANDBOX (cutbox-rows.mjs): the forced cells as the released guide's own fill.sh prints them over the translation 786f49e491af0ddf… (all of the seat's roots in one cut). By AI agents, Wed Nov 11 2026. No macro, syntax, notation, axiom, sorry.
-/
import Derived.Test.YtnbjbjpfleiogaaChecked
import GoSem.Claim
import GoSem.ClaimJoined
import GoSem.ClaimMapViews
import Derived.JoinedTies
import Derived.KernelRfl
namespace Go.Proofs.Ytnbjbjpfleiogaa
/- THE CELL 'sum', in the pinned program and in every row, IS THE sha256 OF THE DUMP (.gsa) THAT YtnbjbjpfleiogaaProg.lean LOADS. Nothing in Lean hashes anything: it is a label: what it is worth is what the hold of that sum in a sandbox is worth. -/
noncomputable def Try.pinned : Pinned := { name := "ytnbjbjpfleiogaa", sum := "786f49e491af0ddf247ed2751b958d0c656dfccd4fd9922be9500b122f407455", checked := Try.checked }
namespace Rows
def none {H : Type} : Left H := { results := [], args := [] }

/-- 'hopperlaw02.StreamApart': WHATEVER THE INPUT: true; the input reads as it did. -/
def streamApartSpec : ChangeSpec := { name := "streamApart", fn := fun _ => fun
  | [d] => { results := [.lit (.bool true)], args := [d] }
  | _ => none }
def streamApartRow : OpenClaim := { program := "ytnbjbjpfleiogaa", sum := "786f49e491af0ddf247ed2751b958d0c656dfccd4fd9922be9500b122f407455", func := "hopper/hopperlaw02.StreamApart", spec := "streamApart", apart := false }
def StreamApartSaid : Prop := streamApartRow.holds Try.pinned (OpenSpec.ofChange streamApartSpec)

/-- ITS FALSE NEIGHBOUR: 'it returns false'. Refute it at one input. -/
def streamApartWrong : ChangeSpec := { name := "streamApart", fn := fun _ => fun
  | [d] => { results := [.lit (.bool false)], args := [d] }
  | _ => none }
def StreamApartWrongFalsely : Prop := streamApartRow.holds Try.pinned (OpenSpec.ofChange streamApartWrong)

/-- 'hopperlaw02.StreamTotals': WHATEVER THE INPUT: true; the input reads as it did. -/
def streamTotalsSpec : ChangeSpec := { name := "streamTotals", fn := fun _ => fun
  | [d] => { results := [.lit (.bool true)], args := [d] }
  | _ => none }
def streamTotalsRow : OpenClaim := { program := "ytnbjbjpfleiogaa", sum := "786f49e491af0ddf247ed2751b958d0c656dfccd4fd9922be9500b122f407455", func := "hopper/hopperlaw02.StreamTotals", spec := "streamTotals", apart := false }
def StreamTotalsSaid : Prop := streamTotalsRow.holds Try.pinned (OpenSpec.ofChange streamTotalsSpec)

/-- ITS FALSE NEIGHBOUR: 'it returns false'. Refute it at one input. -/
def streamTotalsWrong : ChangeSpec := { name := "streamTotals", fn := fun _ => fun
  | [d] => { results := [.lit (.bool false)], args := [d] }
  | _ => none }
def StreamTotalsWrongFalsely : Prop := streamTotalsRow.holds Try.pinned (OpenSpec.ofChange streamTotalsWrong)

/-- 'hopperlaw02.StreamOrder': WHATEVER THE INPUT: true; the input reads as it did. -/
def streamOrderSpec : ChangeSpec := { name := "streamOrder", fn := fun _ => fun
  | [d] => { results := [.lit (.bool true)], args := [d] }
  | _ => none }
def streamOrderRow : OpenClaim := { program := "ytnbjbjpfleiogaa", sum := "786f49e491af0ddf247ed2751b958d0c656dfccd4fd9922be9500b122f407455", func := "hopper/hopperlaw02.StreamOrder", spec := "streamOrder", apart := false }
def StreamOrderSaid : Prop := streamOrderRow.holds Try.pinned (OpenSpec.ofChange streamOrderSpec)

/-- ITS FALSE NEIGHBOUR: 'it returns false'. Refute it at one input. -/
def streamOrderWrong : ChangeSpec := { name := "streamOrder", fn := fun _ => fun
  | [d] => { results := [.lit (.bool false)], args := [d] }
  | _ => none }
def StreamOrderWrongFalsely : Prop := streamOrderRow.holds Try.pinned (OpenSpec.ofChange streamOrderWrong)

/-- 'hopperlaw02.StreamPlays': WHATEVER THE INPUT: true; the input reads as it did. -/
def streamPlaysSpec : ChangeSpec := { name := "streamPlays", fn := fun _ => fun
  | [d] => { results := [.lit (.bool true)], args := [d] }
  | _ => none }
def streamPlaysRow : OpenClaim := { program := "ytnbjbjpfleiogaa", sum := "786f49e491af0ddf247ed2751b958d0c656dfccd4fd9922be9500b122f407455", func := "hopper/hopperlaw02.StreamPlays", spec := "streamPlays", apart := false }
def StreamPlaysSaid : Prop := streamPlaysRow.holds Try.pinned (OpenSpec.ofChange streamPlaysSpec)

/-- ITS FALSE NEIGHBOUR: 'it returns false'. Refute it at one input. -/
def streamPlaysWrong : ChangeSpec := { name := "streamPlays", fn := fun _ => fun
  | [d] => { results := [.lit (.bool false)], args := [d] }
  | _ => none }
def StreamPlaysWrongFalsely : Prop := streamPlaysRow.holds Try.pinned (OpenSpec.ofChange streamPlaysWrong)

/-- 'hopperlaw02.StreamTwo': WHATEVER THE INPUT: true; the input reads as it did. -/
def streamTwoSpec : ChangeSpec := { name := "streamTwo", fn := fun _ => fun
  | [d] => { results := [.lit (.bool true)], args := [d] }
  | _ => none }
def streamTwoRow : OpenClaim := { program := "ytnbjbjpfleiogaa", sum := "786f49e491af0ddf247ed2751b958d0c656dfccd4fd9922be9500b122f407455", func := "hopper/hopperlaw02.StreamTwo", spec := "streamTwo", apart := false }
def StreamTwoSaid : Prop := streamTwoRow.holds Try.pinned (OpenSpec.ofChange streamTwoSpec)

/-- ITS FALSE NEIGHBOUR: 'it returns false'. Refute it at one input. -/
def streamTwoWrong : ChangeSpec := { name := "streamTwo", fn := fun _ => fun
  | [d] => { results := [.lit (.bool false)], args := [d] }
  | _ => none }
def StreamTwoWrongFalsely : Prop := streamTwoRow.holds Try.pinned (OpenSpec.ofChange streamTwoWrong)

/- THE SECOND FORM. 'bulk': how many values and letters a reading holds, each counted each time it is reached (what is shared counts as often as it is met; a slice's spare places count too). A statement '..UptoSaid' is the law's where the arguments, and the package variables that the reading takes, are together of bulk at most 1048576: NARROWER than '..Said'. Prove '..Said' where nothing that the law and all that it calls make is longer than what came in: it says more and counts as full. Else prove '..UptoSaid'. A law counts once. -/
mutual
def uptoBulk {H : Type} : DataW H → Nat
  | .lit (.string bytes) => bytes.length + 1
  | .lit _ => 1
  | .nil => 1
  | .ptr d => uptoBulk d + 1
  | .slice elems spare => uptoBulkAll elems + uptoBulkAll spare + 1
  | .agg parts => uptoBulkAll parts + 1
  | .iface _ d => uptoBulk d + 1
  | .map entries => uptoBulkEntries entries + 1
  | .held _ => 1
def uptoBulkAll {H : Type} : List (DataW H) → Nat
  | [] => 0
  | d :: r => uptoBulk d + uptoBulkAll r
def uptoBulkEntries {H : Type} : List (Lit × DataW H) → Nat
  | [] => 0
  | x :: r => uptoBulkEntry x + uptoBulkEntries r
def uptoBulkEntry {H : Type} : Lit × DataW H → Nat
  | (.string bytes, d) => bytes.length + uptoBulk d + 1
  | (_, d) => uptoBulk d + 1
 end
def uptoSmall : (H : Type) → List (DataW H) → Bool := fun _ ds => decide (uptoBulkAll ds ≤ 1048576)
def OpenSpec.upto (s : _root_.Go.ChangeSpec) : _root_.Go.OpenSpec := { _root_.Go.OpenSpec.ofChange s with cond := some uptoSmall }

/-- 'hopperlaw02.StreamApart', WHERE WHAT IT READS IS OF BULK AT MOST 1048576: true; the input reads as it did. -/
def streamApartUptoRow : OpenClaim := { program := "ytnbjbjpfleiogaa", sum := "786f49e491af0ddf247ed2751b958d0c656dfccd4fd9922be9500b122f407455", func := "hopper/hopperlaw02.StreamApart", spec := "streamApart", apart := false, narrowed := true }
def StreamApartUptoSaid : Prop := streamApartUptoRow.holds Try.pinned (OpenSpec.upto streamApartSpec)

/-- 'hopperlaw02.StreamTotals', WHERE WHAT IT READS IS OF BULK AT MOST 1048576: true; the input reads as it did. -/
def streamTotalsUptoRow : OpenClaim := { program := "ytnbjbjpfleiogaa", sum := "786f49e491af0ddf247ed2751b958d0c656dfccd4fd9922be9500b122f407455", func := "hopper/hopperlaw02.StreamTotals", spec := "streamTotals", apart := false, narrowed := true }
def StreamTotalsUptoSaid : Prop := streamTotalsUptoRow.holds Try.pinned (OpenSpec.upto streamTotalsSpec)

/-- 'hopperlaw02.StreamOrder', WHERE WHAT IT READS IS OF BULK AT MOST 1048576: true; the input reads as it did. -/
def streamOrderUptoRow : OpenClaim := { program := "ytnbjbjpfleiogaa", sum := "786f49e491af0ddf247ed2751b958d0c656dfccd4fd9922be9500b122f407455", func := "hopper/hopperlaw02.StreamOrder", spec := "streamOrder", apart := false, narrowed := true }
def StreamOrderUptoSaid : Prop := streamOrderUptoRow.holds Try.pinned (OpenSpec.upto streamOrderSpec)

/-- 'hopperlaw02.StreamPlays', WHERE WHAT IT READS IS OF BULK AT MOST 1048576: true; the input reads as it did. -/
def streamPlaysUptoRow : OpenClaim := { program := "ytnbjbjpfleiogaa", sum := "786f49e491af0ddf247ed2751b958d0c656dfccd4fd9922be9500b122f407455", func := "hopper/hopperlaw02.StreamPlays", spec := "streamPlays", apart := false, narrowed := true }
def StreamPlaysUptoSaid : Prop := streamPlaysUptoRow.holds Try.pinned (OpenSpec.upto streamPlaysSpec)

/-- 'hopperlaw02.StreamTwo', WHERE WHAT IT READS IS OF BULK AT MOST 1048576: true; the input reads as it did. -/
def streamTwoUptoRow : OpenClaim := { program := "ytnbjbjpfleiogaa", sum := "786f49e491af0ddf247ed2751b958d0c656dfccd4fd9922be9500b122f407455", func := "hopper/hopperlaw02.StreamTwo", spec := "streamTwo", apart := false, narrowed := true }
def StreamTwoUptoSaid : Prop := streamTwoUptoRow.holds Try.pinned (OpenSpec.upto streamTwoSpec)

end Rows
end Go.Proofs.Ytnbjbjpfleiogaa
