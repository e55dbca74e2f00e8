/- Arguments opened: a slice of pieces, cell by cell; conditions: none. -/
import Derived.Test.YtnbjbjpfleiogaaLawKit
import Derived.Test.YtnbjbjpfleiogaaStPieces
namespace Go.Proofs.Ytnbjbjpfleiogaa
open Go.ChangeShapes Go.WideShapes Go.ChangeAt Go.RowKit Go.Deep

instance : Inhabited Piece := ⟨piece0⟩

section
variable {H : Type} {enc : TypeId × Value → H} {P : Program} {w : World} {spare : Nat → Bool} {held : Bool}
/-- A slice of structs of an integer, a string, two integers. -/
theorem open_pieces {t e : TypeId} {f0 f1 f2 f3 : Field} {ao : Option Addr} {len cap : Nat} {d : DataW H} {p : List MemPlace} (ht : P.underlying t = some (.slice e)) (he : P.underlying e = some (.struct #[f0, f1, f2, f3]))
    (hone : oneCellFields P #[f0, f1, f2, f3] = true) (hC : P.cellsOf e = 4) (h0 : P.underlying f0.type = some (.int .i64)) (h1 : P.underlying f1.type = some .string) (h2 : P.underlying f2.type = some (.int .i64)) (h3 : P.underlying f3.type = some (.int .i64))
    (h : DataW.Trod enc P w 0 spare held t (.slice ao len cap) d p) : len ≤ maxLen ∧ ∃ A : List Piece, A.length = len ∧ RdP w w.heap.size ao A := by
  obtain ⟨hl, hm, hall⟩ := open_rows ht he hone hC (by simp) h
  obtain ⟨F, hF⟩ := choose_lt (α := Piece) (n := len) (p := fun k x => ∃ b off, ao = some ⟨b, off, none⟩ ∧ b < w.heap.size ∧ w.cell? ⟨b, off + k * 4, none⟩ = some (.int .i64 x.side) ∧ w.cell? ⟨b, off + k * 4 + 1, none⟩ = some (.string x.data) ∧
      w.cell? ⟨b, off + k * 4 + 2, none⟩ = some (.int .i64 x.come) ∧ w.cell? ⟨b, off + k * 4 + 3, none⟩ = some (.int .i64 x.take) ∧ x.data.size ≤ maxLen) (fun i hi => by
    obtain ⟨b, off, e1, hb, hfl⟩ := hall i hi
    obtain ⟨v0, n0, y0, c0, t0⟩ := hfl 0 f0 rfl
    obtain ⟨v1, n1, y1, c1, t1⟩ := hfl 1 f1 rfl
    obtain ⟨v2, n2, y2, c2, t2⟩ := hfl 2 f2 rfl
    obtain ⟨v3, n3, y3, c3, t3⟩ := hfl 3 f3 rfl
    obtain ⟨x0, q0, _, _⟩ := DataW.trod_int h0 t0
    obtain ⟨x1, q1, _, hs⟩ := DataW.trod_string h1 t1
    obtain ⟨x2, q2, _, _⟩ := DataW.trod_int h2 t2
    obtain ⟨x3, q3, _, _⟩ := DataW.trod_int h3 t3
    simp only [List.cons.injEq, and_true] at q0 q1 q2 q3
    subst q0 q1 q2 q3
    exact ⟨⟨x0, x1, x2, x3⟩, b, off, e1, hb, c0, c1, c2, c3, hs⟩)
  refine ⟨by omega, (List.range len).map F, by simp, fun k hk => ?_⟩
  have hk' : k < len := by simpa using hk
  have e1 : ((List.range len).map F).getD k piece0 = F k := by simp [List.getD, hk']
  rw [e1]
  exact hF k hk'
end

end Go.Proofs.Ytnbjbjpfleiogaa
