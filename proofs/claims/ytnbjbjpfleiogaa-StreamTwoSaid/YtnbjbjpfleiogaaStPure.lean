/- A net as pipes: two for each connection; what its calls answer and what becomes of it; conditions: none. -/
import Derived.Test.YtnbjbjpfleiogaaWords2
namespace Go.Proofs.Ytnbjbjpfleiogaa
open Go.RowKit

structure Pipe where
  way : ByteArray
  here : ByteArray
  shut : Bool
deriving Inhabited

def pipe0 : Pipe := ⟨⟨#[]⟩, ⟨#[]⟩, false⟩
def pipeCells (p : Pipe) : List Value := [.string p.way, .string p.here, .bool p.shut]
def netCells : List Pipe → List Value
  | [] => []
  | p :: ps => .string p.way :: .string p.here :: .bool p.shut :: netCells ps

theorem netCells_len (ps : List Pipe) : (netCells ps).length = 3 * ps.length := by
  induction ps with
  | nil => rfl
  | cons p ps ih => simp [netCells, ih]; omega
theorem netCells_append (ps qs : List Pipe) : netCells (ps ++ qs) = netCells ps ++ netCells qs := by
  induction ps with
  | nil => rfl
  | cons p ps ih => simp [netCells, ih]
theorem netCells_get (ps : List Pipe) (q : Nat) (h : q < ps.length) :
    (netCells ps)[3 * q]? = some (.string (ps.getD q pipe0).way) ∧ (netCells ps)[3 * q + 1]? = some (.string (ps.getD q pipe0).here) ∧ (netCells ps)[3 * q + 2]? = some (.bool (ps.getD q pipe0).shut) := by
  induction ps generalizing q with
  | nil => simp at h
  | cons p ps ih =>
    cases q with
    | zero => simp [netCells]
    | succ q =>
      have := ih q (by simpa using h)
      simp only [netCells, List.getD_cons_succ]
      rw [show 3 * (q + 1) = 3 * q + 1 + 1 + 1 by omega, show 3 * q + 1 + 1 + 1 + 1 = (3 * q + 1) + 1 + 1 + 1 by omega, show 3 * q + 1 + 1 + 1 + 2 = (3 * q + 2) + 1 + 1 + 1 by omega]
      simp only [List.getElem?_cons_succ]
      exact this
theorem netCells_set (ps : List Pipe) (q : Nat) (h : q < ps.length) :
    (∀ s, (netCells ps).set (3 * q) (.string s) = netCells (ps.set q { ps.getD q pipe0 with way := s })) ∧ (∀ s, (netCells ps).set (3 * q + 1) (.string s) = netCells (ps.set q { ps.getD q pipe0 with here := s })) ∧
      (∀ b, (netCells ps).set (3 * q + 2) (.bool b) = netCells (ps.set q { ps.getD q pipe0 with shut := b })) := by
  induction ps generalizing q with
  | nil => simp at h
  | cons p ps ih =>
    cases q with
    | zero => simp [netCells]
    | succ q =>
      have := ih q (by simpa using h)
      rw [show 3 * (q + 1) = 3 * q + 1 + 1 + 1 by omega, show 3 * q + 1 + 1 + 1 + 1 = (3 * q + 1) + 1 + 1 + 1 by omega, show 3 * q + 1 + 1 + 1 + 2 = (3 * q + 2) + 1 + 1 + 1 by omega]
      simp only [netCells, List.getD_cons_succ, List.set_cons_succ]
      exact ⟨fun s => by rw [this.1], fun s => by rw [this.2.1], fun s => by rw [this.2.2]⟩

/-- No pipe holds more than may be. -/
def Fits (p : Pipe) : Prop := p.way.size + p.here.size ≤ 262144
structure NetOk (ps : List Pipe) (n : Nat) : Prop where
  len : ps.length = 2 * n
  n : n ≤ 64
  fit : ∀ q, Fits (ps.getD q pipe0)

def wrE (p : Pipe) (d : ByteArray) : Int := if p.shut then 20 else if 262144 < p.way.size + p.here.size + d.size then 2 else 0
def wrP (p : Pipe) (d : ByteArray) : Pipe := if p.shut then p else if 262144 < p.way.size + p.here.size + d.size then p else { p with way := p.way ++ d }
def arN (p : Pipe) (m : Nat) : Nat := min m p.way.size
def arP (p : Pipe) (m : Nat) : Pipe := { p with here := p.here ++ p.way.extract 0 (arN p m), way := p.way.extract (arN p m) p.way.size }
def rdN (p : Pipe) (m : Nat) : Nat := min m p.here.size
def rdS (p : Pipe) (m : Nat) : ByteArray := p.here.extract 0 (rdN p m)
def rdP (p : Pipe) (m : Nat) : Pipe := { p with here := p.here.extract (rdN p m) p.here.size }
def clE (p : Pipe) : Int := if p.shut then 20 else 0
def clP (p : Pipe) : Pipe := { p with shut := true }
def enB (p : Pipe) : Bool := p.shut && (p.way.toList.isEmpty && p.here.toList.isEmpty)

theorem getD_set {α : Type} {l : List α} {i j : Nat} {v d : α} (hi : i < l.length) : (l.set i v).getD j d = if i = j then v else l.getD j d := by
  by_cases e : i = j
  · subst e; simp [List.getD, hi]
  · simp [List.getD, List.getElem?_set, e]
theorem NetOk.set {ps : List Pipe} {n q : Nat} (h : NetOk ps n) (hq : q < ps.length) {p : Pipe} (hp : Fits p) : NetOk (ps.set q p) n :=
  ⟨by simpa using h.len, h.n, fun j => by rw [getD_set hq]; split; exact hp; exact h.fit j⟩
theorem fits_wr {p : Pipe} (h : Fits p) (d : ByteArray) : Fits (wrP p d) := by
  unfold wrP; split
  · exact h
  · split
    · exact h
    · unfold Fits; simp only [ByteArray.size_append]; omega
theorem fits_ar {p : Pipe} (h : Fits p) (m : Nat) : Fits (arP p m) := by
  unfold Fits at *
  simp only [arP, arN, ByteArray.size_append, ByteArray.size_extract]
  omega
theorem fits_rd {p : Pipe} (h : Fits p) (m : Nat) : Fits (rdP p m) := by
  unfold Fits at *
  simp only [rdP, rdN, ByteArray.size_extract]
  omega
theorem fits_cl {p : Pipe} (h : Fits p) : Fits (clP p) := h
theorem fits_0 : Fits pipe0 := by unfold Fits pipe0; decide

end Go.Proofs.Ytnbjbjpfleiogaa
