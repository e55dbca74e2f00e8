/- Arguments opened: instructions, tasks, words, picks, cell by cell; conditions: none. -/
import Derived.Test.YtlcgighhiacnpaaLawKit
import Derived.Test.YtlcgighhiacnpaaWdMake
namespace Go.Proofs.Ytlcgighhiacnpaa
open Go.ChangeShapes Go.WideShapes Go.ChangeAt Go.RowKit Go.Deep

section
variable {H : Type} {enc : TypeId × Value → H} {P : Program} {w : World} {spare : Nat → Bool} {held : Bool}
/-- A slice whose elements are one cell each. -/
theorem open_ones {t e : TypeId} {ao : Option Addr} {len cap fuel : Nat} {x : DataW H × List MemPlace} (ht : P.underlying t = some (.slice e)) (hC : P.cellsOf e = 1) (h : DataW.trod enc P w 0 spare held fuel t [.slice ao len cap] = some x) :
    len ≤ cap ∧ cap ≤ maxLen ∧ ∀ i, i < len → ∃ b off, ao = some ⟨b, off, none⟩ ∧ b < w.heap.size ∧ ∃ (v : Value) (n : Nat) (y : DataW H × List MemPlace), w.cell? ⟨b, off + i, none⟩ = some v ∧ DataW.trod enc P w 0 spare held n e [v] = some y := by
  rcases open_slice1 ht hC h with ⟨hcs, _⟩ | ⟨a, len', cap', m, n, V, D, Pl, hcs, _, hl, hm, hmm, hx, hi⟩
  · simp only [List.cons.injEq, Value.slice.injEq, and_true] at hcs
    obtain ⟨_, rfl, rfl⟩ := hcs
    exact ⟨Nat.le_refl _, by simp [maxLen], fun i hi => absurd hi (Nat.not_lt_zero _)⟩
  · simp only [List.cons.injEq, Value.slice.injEq, and_true] at hcs
    obtain ⟨rfl, rfl, rfl⟩ := hcs
    refine ⟨hl, hm, fun i hil => ?_⟩
    have hlm : len ≤ m := by rw [hmm]; split <;> omega
    obtain ⟨hc, ht'⟩ := hi i (by omega)
    obtain ⟨b, off, spot⟩ := a
    have hspot : spot = none := by
      obtain ⟨hc0, _⟩ := hi 0 (by omega)
      simp only [Addr.add, if_true] at hc0
      cases spot with
      | none => rfl
      | some x =>
        exfalso
        unfold World.cell? at hc0
        split at hc0 <;> simp at hc0
    subst hspot
    rw [Addr.add_lit] at hc
    exact ⟨b, off, rfl, World.block_lt_of_cell? w _ hc, V i, n, _, hc, ht'⟩

theorem open_picks {t e : TypeId} {ao : Option Addr} {len cap : Nat} {d : DataW H} {p : List MemPlace} (ht : P.underlying t = some (.slice e)) (hC : P.cellsOf e = 1) (he : P.underlying e = some (.int .i64)) (h : DataW.Trod enc P w 0 spare held t (.slice ao len cap) d p) :
    len ≤ maxLen ∧ ∃ A : List Int, A.length = len ∧ RdN w w.heap.size ao A := by
  obtain ⟨fuel, hf⟩ := h
  obtain ⟨hl, hm, hall⟩ := open_ones ht hC hf
  obtain ⟨F, hF⟩ := choose_lt (α := Int) (n := len) (p := fun k x => ∃ b off, ao = some ⟨b, off, none⟩ ∧ b < w.heap.size ∧ w.cell? ⟨b, off + k, none⟩ = some (.int .i64 x)) (fun i hi => by
    obtain ⟨b, off, e1, hb, v, n, y, hc, hy⟩ := hall i hi
    obtain ⟨x0, q0, _, _⟩ := DataW.trod_int he hy
    simp only [List.cons.injEq, and_true] at q0
    subst q0
    exact ⟨x0, b, off, e1, hb, hc⟩)
  refine ⟨by omega, (List.range len).map F, by simp, fun k hk => ?_⟩
  have hk' : k < len := by simpa using hk
  have e1 : ((List.range len).map F).getD k 0 = F k := by simp [List.getD, hk']
  rw [e1]
  exact hF k hk'

theorem open_words {t e : TypeId} {ao : Option Addr} {len cap : Nat} {d : DataW H} {p : List MemPlace} (ht : P.underlying t = some (.slice e)) (hC : P.cellsOf e = 1) (he : P.underlying e = some (.int .u64)) (h : DataW.Trod enc P w 0 spare held t (.slice ao len cap) d p) :
    len ≤ maxLen ∧ ∃ A : List Nat, A.length = len ∧ RdU w w.heap.size ao A := by
  obtain ⟨fuel, hf⟩ := h
  obtain ⟨hl, hm, hall⟩ := open_ones ht hC hf
  obtain ⟨F, hF⟩ := choose_lt (α := Nat) (n := len) (p := fun k x => ∃ b off, ao = some ⟨b, off, none⟩ ∧ b < w.heap.size ∧ w.cell? ⟨b, off + k, none⟩ = some (.int .u64 (x : Nat)) ∧ x < 18446744073709551616) (fun i hi => by
    obtain ⟨b, off, e1, hb, v, n, y, hc, hy⟩ := hall i hi
    obtain ⟨x0, q0, _, hw⟩ := DataW.trod_int he hy
    simp only [List.cons.injEq, and_true] at q0
    subst q0
    have := bounds_u64 hw
    refine ⟨x0.toNat, b, off, e1, hb, ?_, by omega⟩
    rw [hc, Int.toNat_of_nonneg this.1])
  refine ⟨by omega, (List.range len).map F, by simp, fun k hk => ?_⟩
  have hk' : k < len := by simpa using hk
  have e1 : ((List.range len).map F).getD k 0 = F k := by simp [List.getD, hk']
  rw [e1]
  exact hF k hk'

theorem open_instrs {t e : TypeId} {f0 f1 f2 f3 : Field} {ao : Option Addr} {len cap : Nat} {d : DataW H} {p : List MemPlace} (ht : P.underlying t = some (.slice e)) (he : P.underlying e = some (.struct #[f0, f1, f2, f3]))
    (hone : oneCellFields P #[f0, f1, f2, f3] = true) (hC : P.cellsOf e = 4) (h0 : P.underlying f0.type = some (.int .i64)) (h1 : P.underlying f1.type = some (.int .i64)) (h2 : P.underlying f2.type = some (.int .i64)) (h3 : P.underlying f3.type = some (.int .i64))
    (h : DataW.Trod enc P w 0 spare held t (.slice ao len cap) d p) : len ≤ cap ∧ cap ≤ maxLen ∧ ∃ A : List Ins, A.length = len ∧ RdI w w.heap.size ao A := by
  obtain ⟨hl, hm, hall⟩ := open_rows ht he hone hC (by simp) h
  obtain ⟨F, hF⟩ := choose_lt (α := Ins) (n := len) (p := fun k x => ∃ b off, ao = some ⟨b, off, none⟩ ∧ b < w.heap.size ∧ w.cell? ⟨b, off + k * 4, none⟩ = some (.int .i64 x.k) ∧ w.cell? ⟨b, off + k * 4 + 1, none⟩ = some (.int .i64 x.a) ∧
      w.cell? ⟨b, off + k * 4 + 2, none⟩ = some (.int .i64 x.b) ∧ w.cell? ⟨b, off + k * 4 + 3, none⟩ = some (.int .i64 x.n)) (fun i hi => by
    obtain ⟨b, off, e1, hb, hfl⟩ := hall i hi
    obtain ⟨v0, n0, y0, c0, t0⟩ := hfl 0 f0 rfl
    obtain ⟨v1, n1, y1, c1, t1⟩ := hfl 1 f1 rfl
    obtain ⟨v2, n2, y2, c2, t2⟩ := hfl 2 f2 rfl
    obtain ⟨v3, n3, y3, c3, t3⟩ := hfl 3 f3 rfl
    obtain ⟨x0, q0, _, _⟩ := DataW.trod_int h0 t0
    obtain ⟨x1, q1, _, _⟩ := DataW.trod_int h1 t1
    obtain ⟨x2, q2, _, _⟩ := DataW.trod_int h2 t2
    obtain ⟨x3, q3, _, _⟩ := DataW.trod_int h3 t3
    simp only [List.cons.injEq, and_true] at q0 q1 q2 q3
    subst q0 q1 q2 q3
    exact ⟨⟨x0, x1, x2, x3⟩, b, off, e1, hb, c0, c1, c2, c3⟩)
  refine ⟨hl, hm, (List.range len).map F, by simp, fun k hk => ?_⟩
  have hk' : k < len := by simpa using hk
  have e1 : ((List.range len).map F).getD k ins0 = F k := by simp [List.getD, hk']
  rw [e1]
  exact hF k hk'

theorem open_tasks {t u e : TypeId} {f0 f1 f2 f3 : Field} {ao : Option Addr} {len cap : Nat} {d : DataW H} {p : List MemPlace} (ht : P.underlying t = some (.slice u)) (hu : P.underlying u = some (.slice e)) (hCu : P.cellsOf u = 1) (he : P.underlying e = some (.struct #[f0, f1, f2, f3]))
    (hone : oneCellFields P #[f0, f1, f2, f3] = true) (hC : P.cellsOf e = 4) (h0 : P.underlying f0.type = some (.int .i64)) (h1 : P.underlying f1.type = some (.int .i64)) (h2 : P.underlying f2.type = some (.int .i64)) (h3 : P.underlying f3.type = some (.int .i64))
    (h : DataW.Trod enc P w 0 spare held t (.slice ao len cap) d p) : len ≤ maxLen ∧ ∃ A : List (List Ins), A.length = len ∧ RdT w w.heap.size ao A := by
  obtain ⟨fuel, hf⟩ := h
  obtain ⟨hl, hm, hall⟩ := open_ones ht hCu hf
  obtain ⟨F, hF⟩ := choose_lt (α := List Ins) (n := len) (p := fun k x => ∃ b off at_ ct, ao = some ⟨b, off, none⟩ ∧ b < w.heap.size ∧ w.cell? ⟨b, off + k, none⟩ = some (.slice at_ x.length ct) ∧ x.length ≤ ct ∧ ct ≤ 9223372036854775807 ∧ RdI w w.heap.size at_ x) (fun i hi => by
    obtain ⟨b, off, e1, hb, v, n, y, hc, hy⟩ := hall i hi
    have hv : ∃ a2 l2 c2, v = .slice a2 l2 c2 := by
      rcases DataW.trod_slice hu hy with ⟨hcs, _⟩ | ⟨a2, l2, c2, _, _, _, _, hcs, _⟩
      · simp only [List.cons.injEq, and_true] at hcs; exact ⟨_, _, _, hcs⟩
      · simp only [List.cons.injEq, and_true] at hcs; exact ⟨_, _, _, hcs⟩
    obtain ⟨a2, l2, c2, rfl⟩ := hv
    obtain ⟨hl2, hm2, A, hA, hri⟩ := open_instrs (d := y.1) (p := y.2) hu he hone hC h0 h1 h2 h3 ⟨n, hy⟩
    subst hA
    exact ⟨A, b, off, a2, c2, e1, hb, hc, hl2, by unfold maxLen at hm2; omega, hri⟩)
  refine ⟨by omega, (List.range len).map F, by simp, fun k hk => ?_⟩
  have hk' : k < len := by simpa using hk
  have e1 : ((List.range len).map F).getD k [] = F k := by simp [List.getD, hk']
  rw [e1]
  exact hF k hk'
end

end Go.Proofs.Ytlcgighhiacnpaa
