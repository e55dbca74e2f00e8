/- The document's net: ways instead of pipes; how the two are alike; conditions: none. -/
import Derived.Test.YtnbjbjpfleiogaaStBytes
namespace Go.Proofs.Ytnbjbjpfleiogaa
open Go.RowKit

structure Way where
  all : ByteArray
  came : Nat
  taken : Nat
  shut : Bool
deriving Inhabited

def way0 : Way := ⟨⟨#[]⟩, 0, 0, false⟩
def refCells : List Way → List Value
  | [] => []
  | y :: ys => .string y.all :: .int .i64 y.came :: .int .i64 y.taken :: .bool y.shut :: refCells ys
theorem refCells_len (ys : List Way) : (refCells ys).length = 4 * ys.length := by
  induction ys with
  | nil => rfl
  | cons y ys ih => simp [refCells, ih]; omega
theorem refCells_append (ys zs : List Way) : refCells (ys ++ zs) = refCells ys ++ refCells zs := by
  induction ys with
  | nil => rfl
  | cons y ys ih => simp [refCells, ih]
theorem refCells_get (ys : List Way) (q : Nat) (h : q < ys.length) :
    (refCells ys)[4 * q]? = some (.string (ys.getD q way0).all) ∧ (refCells ys)[4 * q + 1]? = some (.int .i64 (ys.getD q way0).came) ∧ (refCells ys)[4 * q + 2]? = some (.int .i64 (ys.getD q way0).taken) ∧ (refCells ys)[4 * q + 3]? = some (.bool (ys.getD q way0).shut) := by
  induction ys generalizing q with
  | nil => simp at h
  | cons y ys ih =>
    cases q with
    | zero => simp [refCells]
    | succ q =>
      have := ih q (by simpa using h)
      simp only [refCells, List.getD_cons_succ]
      rw [show 4 * (q + 1) = 4 * q + 1 + 1 + 1 + 1 by omega, show 4 * q + 1 + 1 + 1 + 1 + 1 = (4 * q + 1) + 1 + 1 + 1 + 1 by omega, show 4 * q + 1 + 1 + 1 + 1 + 2 = (4 * q + 2) + 1 + 1 + 1 + 1 by omega, show 4 * q + 1 + 1 + 1 + 1 + 3 = (4 * q + 3) + 1 + 1 + 1 + 1 by omega]
      simp only [List.getElem?_cons_succ]
      exact this
theorem refCells_set (ys : List Way) (q : Nat) (h : q < ys.length) :
    (∀ s, (refCells ys).set (4 * q) (.string s) = refCells (ys.set q { ys.getD q way0 with all := s })) ∧ (∀ s : Nat, (refCells ys).set (4 * q + 1) (.int .i64 s) = refCells (ys.set q { ys.getD q way0 with came := s })) ∧
      (∀ s : Nat, (refCells ys).set (4 * q + 2) (.int .i64 s) = refCells (ys.set q { ys.getD q way0 with taken := s })) ∧ (∀ b, (refCells ys).set (4 * q + 3) (.bool b) = refCells (ys.set q { ys.getD q way0 with shut := b })) := by
  induction ys generalizing q with
  | nil => simp at h
  | cons y ys ih =>
    cases q with
    | zero => simp [refCells]
    | succ q =>
      have := ih q (by simpa using h)
      rw [show 4 * (q + 1) = 4 * q + 1 + 1 + 1 + 1 by omega, show 4 * q + 1 + 1 + 1 + 1 + 1 = (4 * q + 1) + 1 + 1 + 1 + 1 by omega, show 4 * q + 1 + 1 + 1 + 1 + 2 = (4 * q + 2) + 1 + 1 + 1 + 1 by omega, show 4 * q + 1 + 1 + 1 + 1 + 3 = (4 * q + 3) + 1 + 1 + 1 + 1 by omega]
      simp only [refCells, List.getD_cons_succ, List.set_cons_succ]
      exact ⟨fun s => by rw [this.1], fun s => by rw [this.2.1], fun s => by rw [this.2.2.1], fun s => by rw [this.2.2.2]⟩

structure IsRef (w : World) (nb : Nat) (v : Value) (ys : List Way) (n : Nat) : Prop where
  net : Blk w nb 62 #[v]
  row : w.ownsRow 0 65 8 v n (refCells ys)
section
variable {w w' : World} {nb n : Nat} {v : Value} {ys : List Way} {l : List Nat}
theorem IsRef.len (h : IsRef w nb v ys n) : ys.length = 2 * n := by have := h.row.1; rw [refCells_len] at this; omega
theorem IsRef.form (h : IsRef w nb v ys n) : ∃ A cap, v = .slice A n cap ∧ n ≤ cap := own_form h.row
theorem IsRef.chg (h : IsRef w nb v ys n) (hc : Chg l w w') (h1 : nb ∉ l) (h2 : ∀ g, v.ownBlock = some g → g ∉ l) : IsRef w' nb v ys n := ⟨h.net.chg hc h1, own_chg h.row hc h2⟩
theorem IsRef.ne (h : IsRef w nb v ys n) : ∀ g, v.ownBlock = some g → g ≠ nb := fun g hg e => own_ne h.row h.net (by decide) (by rw [hg, e])
theorem IsRef.way (h : IsRef w nb v ys n) {q : Nat} (hq : q < ys.length) : ∃ g cap, v = .slice (some ⟨g, 0, none⟩) n cap ∧ g < w.heap.size ∧ (∀ j, w.frozen? ⟨g, j, none⟩ = false) ∧ w.cell? ⟨g, 4 * q, none⟩ = some (.string (ys.getD q way0).all) ∧
    w.cell? ⟨g, 4 * q + 1, none⟩ = some (.int .i64 (ys.getD q way0).came) ∧ w.cell? ⟨g, 4 * q + 2, none⟩ = some (.int .i64 (ys.getD q way0).taken) ∧ w.cell? ⟨g, 4 * q + 3, none⟩ = some (.bool (ys.getD q way0).shut) ∧ n ≤ cap := by
  have hl := h.len
  rcases h.row.2 with ⟨_, h0⟩ | ⟨g, cap, cur, rfl, hb, hg, h3, h4, h5, h6⟩
  · omega
  · have hg' : Blk w g 65 cur := hg
    obtain ⟨c0, c1, c2, c3⟩ := refCells_get ys q hq
    have get : ∀ j u, (refCells ys)[j]? = some u → w.cell? ⟨g, j, none⟩ = some u := fun j u hu => by
      refine hg'.at j ?_
      rw [← h6, List.getElem?_take] at hu
      split at hu
      · simpa using hu
      · cases hu
    exact ⟨g, cap, rfl, hg'.lt, hg'.free, get _ _ c0, get _ _ c1, get _ _ c2, get _ _ c3, h3⟩
theorem IsRef.cell {g cap : Nat} (h : IsRef w nb (.slice (some ⟨g, 0, none⟩) n cap) ys n) {j : Nat} {x : Value} {ys' : List Way} (hj : j < (refCells ys).length) (he : (refCells ys).set j x = refCells ys') :
    IsRef (w.setCell ⟨g, j, none⟩ x) nb (.slice (some ⟨g, 0, none⟩) n cap) ys' n :=
  ⟨h.net.far (h.ne g rfl).symm _, by rw [← he]; exact own_setCell h.row hj _⟩
end

theorem isEmpty_size (a : ByteArray) : a.toList.isEmpty = decide (a.size = 0) := by
  rw [ByteArray.toList_eq]
  obtain ⟨⟨l⟩⟩ := a
  cases l <;> rfl
theorem extract_over (a : ByteArray) (i j : Nat) (h : a.size ≤ j) : a.extract i j = a.extract i a.size := by
  apply ByteArray.ext
  rw [ByteArray.data_extract, ByteArray.data_extract]
  apply Array.toList_inj.1
  rw [Array.toList_extract, Array.toList_extract]
  unfold List.extract
  have hs : a.size = a.data.toList.length := rfl
  rw [List.take_of_length_le (by rw [List.length_drop]; omega), List.take_of_length_le (by rw [List.length_drop]; omega)]
theorem extract_none (a : ByteArray) (i : Nat) : a.extract i 0 = ByteArray.empty := ByteArray.size_eq_zero_iff.1 (by rw [ByteArray.size_extract]; omega)
/-- A pipe and a way that say the same. -/
structure Sim (p : Pipe) (y : Way) : Prop where
  way : p.way = y.all.extract y.came y.all.size
  here : p.here = y.all.extract y.taken y.came
  shut : p.shut = y.shut
  tc : y.taken ≤ y.came
  ca : y.came ≤ y.all.size
theorem sim0 : Sim pipe0 way0 := ⟨rfl, rfl, rfl, Nat.le_refl _, Nat.le_refl _⟩
section
variable {p : Pipe} {y : Way}
theorem Sim.wz (h : Sim p y) : p.way.size = y.all.size - y.came := by rw [h.way, ByteArray.size_extract]; omega
theorem Sim.hz (h : Sim p y) : p.here.size = y.came - y.taken := by rw [h.here, ByteArray.size_extract]; have := h.ca; omega
def arW (y : Way) (m : Nat) : Way := { y with came := y.came + min m (y.all.size - y.came) }
def rdW (y : Way) (m : Nat) : Way := { y with taken := y.taken + min m (y.came - y.taken) }
theorem Sim.wr (h : Sim p y) (d : ByteArray) : Sim { p with way := p.way ++ d } { y with all := y.all ++ d } := by
  have h1 := h.ca
  refine ⟨?_, ?_, h.shut, h.tc, ?_⟩
  · show p.way ++ d = (y.all ++ d).extract y.came (y.all ++ d).size
    rw [h.way, ByteArray.extract_append, ByteArray.size_append]
    congr 1
    · exact (extract_over _ _ _ (by omega)).symm
    · rw [show y.came - y.all.size = 0 by omega, show y.all.size + d.size - y.all.size = d.size by omega]; exact ByteArray.extract_zero_size.symm
  · show p.here = (y.all ++ d).extract y.taken y.came
    rw [h.here, ByteArray.extract_append, show y.came - y.all.size = 0 by omega, extract_none, ByteArray.append_empty]
  · show y.came ≤ (y.all ++ d).size
    rw [ByteArray.size_append]; omega
theorem Sim.ar (h : Sim p y) (m : Nat) : Sim (arP p m) (arW y m) ∧ arN p m = min m (y.all.size - y.came) := by
  have h1 := h.ca
  have h2 := h.tc
  have hn : arN p m = min m (y.all.size - y.came) := by unfold arN; rw [h.wz]
  refine ⟨⟨?_, ?_, h.shut, by show y.taken ≤ y.came + _; omega, by show y.came + _ ≤ y.all.size; omega⟩, hn⟩
  · show p.way.extract (arN p m) p.way.size = y.all.extract (y.came + min m (y.all.size - y.came)) y.all.size
    rw [hn, h.wz, h.way, ByteArray.extract_extract]
    congr 1
    omega
  · show p.here ++ p.way.extract 0 (arN p m) = y.all.extract y.taken (y.came + min m (y.all.size - y.came))
    rw [hn, h.here, h.way, ByteArray.extract_extract, Nat.add_zero, ByteArray.extract_append_extract]
    congr 1 <;> omega
theorem Sim.rd (h : Sim p y) (m : Nat) : Sim (rdP p m) (rdW y m) ∧ rdN p m = min m (y.came - y.taken) ∧ rdS p m = y.all.extract y.taken (y.taken + min m (y.came - y.taken)) := by
  have h1 := h.ca
  have h2 := h.tc
  have hn : rdN p m = min m (y.came - y.taken) := by unfold rdN; rw [h.hz]
  refine ⟨⟨h.way, ?_, h.shut, by show y.taken + _ ≤ y.came; omega, h.ca⟩, hn, ?_⟩
  · show p.here.extract (rdN p m) p.here.size = y.all.extract (y.taken + min m (y.came - y.taken)) y.came
    rw [hn, h.hz, h.here, ByteArray.extract_extract]
    congr 1
    omega
  · show p.here.extract 0 (rdN p m) = _
    rw [hn, h.here, ByteArray.extract_extract, Nat.add_zero]
    congr 1
    omega
theorem Sim.cl (h : Sim p y) : Sim (clP p) { y with shut := true } := ⟨h.way, h.here, rfl, h.tc, h.ca⟩
theorem Sim.en (h : Sim p y) : enB p = (y.shut && decide (y.taken = y.all.size)) := by
  have h1 := h.ca
  have h2 := h.tc
  unfold enB
  rw [isEmpty_size, isEmpty_size, h.wz, h.hz, h.shut]
  congr 1
  rw [← Bool.decide_and]
  apply decide_eq_decide.2
  omega
end

end Go.Proofs.Ytnbjbjpfleiogaa
