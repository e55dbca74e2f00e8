/- Whole blocks read and written as values; results that are variables of their own; conditions: none. -/
import Derived.Test.YtlcgighhiacnpaaWords2
import Derived.Test.YtlcgighhiacnpaaProg
import Derived.Deep.MidRow
import Derived.Deep.AppendLies
namespace Go.Proofs.Ytlcgighhiacnpaa
open Go.RowKit

/-- Type t is a struct or an array of n cells. -/
def RowT (P : Program) (t : TypeId) (n : Nat) : Prop := (∃ d, P.underlying t = some d ∧ d.isRow = true) ∧ (P.info? t).map (·.size) = some n
theorem rowT_of (t : TypeId) (n : Nat) (h : ((Try.prog.underlying t).map TypeDesc.isRow, (Try.prog.info? t).map (·.size)) = (some true, some n)) : RowT Try.prog t n := by
  simp only [Prod.mk.injEq, Option.map_eq_some_iff] at h
  obtain ⟨⟨d, h1, h2⟩, h3⟩ := h
  exact ⟨⟨d, h1, h2⟩, by obtain ⟨i, h4, h5⟩ := h3; rw [h4]; exact congrArg some h5⟩
theorem row34 : RowT Try.prog 34 4 := rowT_of 34 4 (by kernel_rfl)
theorem row47 : RowT Try.prog 47 8 := rowT_of 47 8 (by kernel_rfl)

section
variable {P : Program} {ops : Array Oper} {rest : List Oper} {o : Oper} {a : Act} {w : World} {Q : Exit → Act → World → Prop}
/-- A whole block is read as a value. -/
theorem wpList_load_blk (hgd : o.guard = none) (t : TypeId) (x : Operand) (ho : o.op = .load t x) (g : Nat) (hx : a.eval x = .pointer (some ⟨g, 0, none⟩)) {te : TypeId} {cs : Array Value} (hB : Blk w g te cs) (hr : RowT P t cs.size)
    (h : wpList P ops Q rest (a.put o.dst (.agg cs)) w) : wpList P ops Q (o :: rest) a w := by
  obtain ⟨⟨d, h1, h2⟩, h3⟩ := hr
  have hc : w.rangeAt g 0 cs.toList := fun j v hv => by rw [Nat.zero_add]; exact hB.at j (by simpa using hv)
  exact wpList_load_mid hgd t x ho g 0 hx cs.toList d hc h1 h2 (by simpa using h3) (by simpa using h)
theorem run_loadVar_blk (g : Nat) {te : TypeId} {cs : Array Value} (hB : Blk w g te cs) {ty : TypeId} (hr : RowT P ty cs.size) : (loadVar ty ⟨g, 0, none⟩).run P w = .ok (.agg cs) w := by
  obtain ⟨⟨d, h1, h2⟩, h3⟩ := hr
  have hc : w.rangeAt g 0 cs.toList := fun j v hv => by rw [Nat.zero_add]; exact hB.at j (by simpa using hv)
  have := run_loadVar_mid w g 0 ty cs.toList d hc h1 h2 (by simpa using h3)
  simpa using this
/-- A result that is a variable of its own, and one more. -/
theorem results_blk2 {fn : Func} {p q : Tmp} {ty : TypeId} (h : fn.results = #[.cell p ty, .tmp q]) (tmps : Array Value) (w : World) (g : Nat) {te : TypeId} {cs : Array Value} (hp : tmps.getD p undef = .pointer (some ⟨g, 0, none⟩)) (hB : Blk w g te cs) (hr : RowT P ty cs.size) :
    (results fn tmps).run P w = .ok (.tuple #[.agg cs, tmps.getD q undef]) w := by
  have hp' : tmps[p]?.getD undef = .pointer (some ⟨g, 0, none⟩) := by simpa using hp
  have := run_loadVar_blk (P := P) g hB hr
  simp [results, h, hp', asAddr, this]
/-- Part of a block, from place k on, is read as a value. -/
theorem wpList_load_part (hgd : o.guard = none) (t : TypeId) (x : Operand) (ho : o.op = .load t x) (g k : Nat) (hx : a.eval x = .pointer (some ⟨g, k, none⟩)) (L : List Value) (hc : w.rangeAt g k L) (hr : RowT P t L.length)
    (h : wpList P ops Q rest (a.put o.dst (.agg L.toArray)) w) : wpList P ops Q (o :: rest) a w := by
  obtain ⟨⟨d, h1, h2⟩, h3⟩ := hr
  exact wpList_load_mid hgd t x ho g k hx _ d hc h1 h2 (by simpa using h3) h
/-- A whole block is written. -/
theorem wpList_store_blk (hgd : o.guard = none) (t : TypeId) (x y : Operand) (ho : o.op = .store t x y) (g : Nat) (cells : Array Value) (hx : a.eval x = .pointer (some ⟨g, 0, none⟩)) (hy : a.eval y = .agg cells) {te : TypeId} {old : Array Value}
    (hB : Blk w g te old) (hr : RowT P t cells.size) (hs : old.size = cells.size) (h1 : cells.all (·.oneCell') = true)
    (h : wpList P ops Q rest (a.put o.dst undef) (w.setRow g cells)) : wpList P ops Q (o :: rest) a w :=
  wpList_store_row hgd t x y ho g cells hx hy te old hB hr.2 hs h1 h
end
theorem below_setRow {B : Nat} {w w' : World} (h : Below B w w') {g : Nat} (hg : B ≤ g) (cs : Array Value) : Below B w (w'.setRow g cs) :=
  ⟨h.os, h.tape, h.output, by simpa using h.size, fun k hk => (setRow_other w' g k cs (by omega)).trans (h.block k hk)⟩

end Go.Proofs.Ytlcgighhiacnpaa
