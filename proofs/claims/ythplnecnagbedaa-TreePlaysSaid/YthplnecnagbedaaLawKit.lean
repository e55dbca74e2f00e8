/- Arguments opened: a slice of structs of one-cell fields, cell by cell; conditions: none. -/
import Derived.Test.YthplnecnagbedaaWords
import Derived.ProofKit
import Derived.OpenShut
import Derived.ShutString
import Derived.ChangeOld
import Derived.SizedLaws
import Derived.Deep.Slices
import Derived.Deep.Fields
import Derived.Lib.SmallJoins
namespace Go.Proofs.Ythplnecnagbedaa
open Go.ChangeShapes Go.WideShapes Go.ChangeAt Go.RowKit Go.Deep

section
variable {H : Type} {enc : TypeId × Value → H} {P : Program} {w : World} {spare : Nat → Bool} {held : Bool}

/-- A slice of structs of one-cell fields: of each element each field's cell, and that the field reads. -/
theorem open_rows {t e : TypeId} {fs : Array Field} {ao : Option Addr} {len cap : Nat} {d : DataW H} {p : List MemPlace} (ht : P.underlying t = some (.slice e)) (he : P.underlying e = some (.struct fs))
    (hone : oneCellFields P fs = true) (hC : P.cellsOf e = fs.size) (hpos : 0 < fs.size) (h : DataW.Trod enc P w 0 spare held t (.slice ao len cap) d p) :
    len ≤ cap ∧ cap ≤ maxLen ∧ ∀ i, i < len → ∃ b off, ao = some ⟨b, off, none⟩ ∧ b < w.heap.size ∧
      ∀ (j : Nat) (f : Field), fs[j]? = some f → ∃ (v : Value) (n : Nat) (y : DataW H × List MemPlace), w.cell? ⟨b, off + i * fs.size + j, none⟩ = some v ∧ DataW.trod enc P w 0 spare held n f.type [v] = some y := by
  obtain ⟨fuel, hf⟩ := h
  rcases open_slice ht hf with ⟨hcs, _⟩ | ⟨a, len', cap', m, n, D, Pl, hcs, _, hl, hm, hmm, hx, hi⟩
  · simp only [Value.cells, List.cons.injEq, Value.slice.injEq, and_true] at hcs
    obtain ⟨_, rfl, rfl⟩ := hcs
    exact ⟨Nat.le_refl _, by simp [maxLen], fun i hi => absurd hi (Nat.not_lt_zero _)⟩
  · simp only [Value.cells, List.cons.injEq, Value.slice.injEq, and_true] at hcs
    obtain ⟨rfl, rfl, rfl⟩ := hcs
    refine ⟨hl, hm, fun i hil => ?_⟩
    have hlm : len ≤ m := by rw [hmm]; split <;> omega
    have get : ∀ i, i < len → ∀ (j : Nat) (f : Field), fs[j]? = some f → ∃ (v : Value) (n : Nat) (y : DataW H × List MemPlace), w.cell? (a.add (i * fs.size + j)) = some v ∧ DataW.trod enc P w 0 spare held n f.type [v] = some y := by
      intro i hil j f hj
      obtain ⟨cs', hc, ht'⟩ := hi i (by omega)
      rw [hC] at hc
      obtain ⟨ys, n', _, _, hlen, hyl, hfld⟩ := DataW.trod_struct he ht'
      obtain ⟨_, hcl, hat⟩ := World.cells?_some hc
      obtain ⟨ho, hk⟩ := hone_of hone j f hj
      have hjl : j < fs.size := (Array.getElem?_eq_some_iff.1 hj).1
      have h1 := hfld j f hj
      rw [ho, hk] at h1
      have hone' : (cs'.drop j).take 1 = [cs'[j]'(by omega)] := by
        rw [List.drop_eq_getElem_cons (by omega)]
        rfl
      rw [hone'] at h1
      have hys : ys[j]? = some (ys[j]'(by omega)) := List.getElem?_eq_getElem (by omega)
      refine ⟨_, n', _, ?_, h1.trans hys⟩
      rw [← Go.Deep.add_add, hat j hjl]
      exact List.getElem?_eq_getElem (by omega)
    have hf0 : fs[0]? = some (fs[0]'hpos) := by simp [hpos]
    obtain ⟨v0, _, _, hc0, _⟩ := get 0 (by omega) 0 _ hf0
    obtain ⟨b, off, spot⟩ := a
    have hspot : spot = none := by
      simp only [Nat.zero_mul, Nat.add_zero, Addr.add, if_true] at hc0
      cases spot with
      | none => rfl
      | some x =>
        exfalso
        unfold World.cell? at hc0
        split at hc0 <;> simp at hc0
    subst hspot
    refine ⟨b, off, rfl, (by have := World.block_lt_of_cell? w _ hc0; rwa [Addr.add_lit] at this), fun j f hj => ?_⟩
    obtain ⟨v, n', y, hc, hy⟩ := get i hil j f hj
    refine ⟨v, n', y, ?_, hy⟩
    rw [← hc, Addr.add_lit, Nat.add_assoc]

/-- A slice of structs of two integers. -/
theorem open_pairs {t e : TypeId} {f0 f1 : Field} {ao : Option Addr} {len cap : Nat} {d : DataW H} {p : List MemPlace} (ht : P.underlying t = some (.slice e)) (he : P.underlying e = some (.struct #[f0, f1]))
    (hone : oneCellFields P #[f0, f1] = true) (hC : P.cellsOf e = 2) (h0 : P.underlying f0.type = some (.int .i64)) (h1 : P.underlying f1.type = some (.int .i64)) (h : DataW.Trod enc P w 0 spare held t (.slice ao len cap) d p) :
    len ≤ maxLen ∧ ∃ A : List (Int × Int), A.length = len ∧ Rd2 w w.heap.size ao A := by
  obtain ⟨hl, hm, hall⟩ := open_rows ht he hone hC (by simp) h
  obtain ⟨F, hF⟩ := choose_lt (α := Int × Int) (n := len) (p := fun k x => ∃ b off, ao = some ⟨b, off, none⟩ ∧ b < w.heap.size ∧ w.cell? ⟨b, off + k * 2, none⟩ = some (.int .i64 x.1) ∧ w.cell? ⟨b, off + k * 2 + 1, none⟩ = some (.int .i64 x.2)) (fun i hi => by
    obtain ⟨b, off, e1, hb, hfl⟩ := hall i hi
    obtain ⟨v0, n0, y0, c0, t0⟩ := hfl 0 f0 rfl
    obtain ⟨v1, n1, y1, c1, t1⟩ := hfl 1 f1 rfl
    obtain ⟨x0, q0, _, _⟩ := DataW.trod_int h0 t0
    obtain ⟨x1, q1, _, _⟩ := DataW.trod_int h1 t1
    simp only [List.cons.injEq, and_true] at q0 q1
    subst q0 q1
    exact ⟨(x0, x1), b, off, e1, hb, c0, c1⟩)
  refine ⟨by omega, (List.range len).map F, by simp, fun k hk => ?_⟩
  have hk' : k < len := by simpa using hk
  have e1 : ((List.range len).map F).getD k (0, 0) = F k := by simp [List.getD, hk']
  rw [e1]
  exact hF k hk'
end

end Go.Proofs.Ythplnecnagbedaa
