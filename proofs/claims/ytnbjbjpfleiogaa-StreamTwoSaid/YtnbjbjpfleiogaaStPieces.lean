/- Pieces that came in, as they read; a round of writing, arriving, reading on one pipe; conditions: none. -/
import Derived.Test.YtnbjbjpfleiogaaStWorks
namespace Go.Proofs.Ytnbjbjpfleiogaa
open Go.RowKit

structure Piece where
  side : Int
  data : ByteArray
  come : Int
  take : Int
def piece0 : Piece := ⟨0, ⟨#[]⟩, 0, 0⟩

/-- A slice of pieces that came in: what each element reads as, below block B. -/
def RdP (w : World) (B : Nat) (ao : Option Addr) (A : List Piece) : Prop :=
  ∀ k, k < A.length → ∃ b off, ao = some ⟨b, off, none⟩ ∧ b < B ∧ w.cell? ⟨b, off + k * 4, none⟩ = some (.int .i64 (A.getD k piece0).side) ∧ w.cell? ⟨b, off + k * 4 + 1, none⟩ = some (.string (A.getD k piece0).data) ∧
    w.cell? ⟨b, off + k * 4 + 2, none⟩ = some (.int .i64 (A.getD k piece0).come) ∧ w.cell? ⟨b, off + k * 4 + 3, none⟩ = some (.int .i64 (A.getD k piece0).take) ∧ (A.getD k piece0).data.size ≤ maxLen
theorem RdP.below {w w' : World} {B : Nat} {ao : Option Addr} {A : List Piece} (h : RdP w B ao A) (hb : Below B w w') : RdP w' B ao A := fun k hk => by
  obtain ⟨b, off, e, hB, c1, c2, c3, c4, hm⟩ := h k hk
  exact ⟨b, off, e, hB, (hb.cell (p := ⟨b, _, none⟩) hB).trans c1, (hb.cell (p := ⟨b, _, none⟩) hB).trans c2, (hb.cell (p := ⟨b, _, none⟩) hB).trans c3, (hb.cell (p := ⟨b, _, none⟩) hB).trans c4, hm⟩

/-- The pipe to side t of a net of one connection, and the net with that pipe turned. -/
def side2 (p q : Pipe) (t : Nat) : Pipe := [p, q].getD t pipe0
def put2 (p q : Pipe) (t : Nat) (x : Pipe) : List Pipe := [p, q].set t x

/-- What the calls of one round say, on the pipe X to side t: write d, tell, let m arrive, tell, read r, tell. -/
structure RoundC (nb : Nat) (L : Pipe → List Pipe) (s t : Int) (ti : Nat) (X : Pipe) (d : ByteArray) (m r : Int) (X1 X2 X3 : Pipe) (k : Int) (x : ByteArray) : Prop where
  wr : ∀ W v, IsNet W nb v (L X) 1 → Calls Try.prog 12 #[.pointer (some ⟨nb, 0, none⟩), .int .i64 0, .int .i64 s, .string d] W (OpE nb v (L X) 1 ti X1 (.int .i64 0) W)
  p1 : ∀ W v, IsNet W nb v (L X1) 1 → Calls Try.prog 15 #[.pointer (some ⟨nb, 0, none⟩), .int .i64 0, .int .i64 t] W fun e w' => e = .returned (.tuple #[.int .i64 (X.way.size + d.size), .int .i64 X.here.size, .int .i64 0]) ∧ Below W.heap.size W w'
  ar : ∀ W v, IsNet W nb v (L X1) 1 → Calls Try.prog 13 #[.pointer (some ⟨nb, 0, none⟩), .int .i64 0, .int .i64 t, .int .i64 m] W (OpE nb v (L X1) 1 ti X2 (.tuple #[.int .i64 k, .int .i64 0]) W)
  p2 : ∀ W v, IsNet W nb v (L X2) 1 → Calls Try.prog 15 #[.pointer (some ⟨nb, 0, none⟩), .int .i64 0, .int .i64 t] W fun e w' => e = .returned (.tuple #[.int .i64 (X.way.size + d.size - k), .int .i64 (X.here.size + k), .int .i64 0]) ∧ Below W.heap.size W w'
  rd : ∀ W v, IsNet W nb v (L X2) 1 → Calls Try.prog 14 #[.pointer (some ⟨nb, 0, none⟩), .int .i64 0, .int .i64 t, .int .i64 r] W (OpE nb v (L X2) 1 ti X3 (.tuple #[.string x, .int .i64 0]) W)
  p3 : ∀ W v, IsNet W nb v (L X3) 1 → Calls Try.prog 15 #[.pointer (some ⟨nb, 0, none⟩), .int .i64 0, .int .i64 t] W fun e w' => e = .returned (.tuple #[.int .i64 (X.way.size + d.size - k), .int .i64 (X.here.size + k - x.size), .int .i64 0]) ∧ Below W.heap.size W w'
  set : ∀ a b, (L a).set ti b = L b
  k0 : 0 ≤ k
  km : k ≤ m
  ka : k ≤ X.way.size + d.size
  x0 : (x.size : Int) ≤ X.here.size + k
  w3 : (X3.way.size : Int) = X.way.size + d.size - k
  h3 : (X3.here.size : Int) = X.here.size + k - x.size
  sh : X3.shut = false
  h12 : X1 = wrP X d
  h22 : X2 = arP X1 m.toNat
  h32 : X3 = rdP X2 r.toNat
  hx : x = rdS X2 r.toNat

theorem round_of (nb : Nat) (L : Pipe → List Pipe) (si ti : Nat) (hsi : si < 2) (hti : ti = 1 - si) (hL : ∀ a b, (L a).set ti b = L b) (hG : ∀ a, (L a).getD ti pipe0 = a) (hlen : ∀ a, (L a).length = 2) (X : Pipe) (hX : X.shut = false) (d : ByteArray) (hd : d.size ≤ 1000000) (hf : X.way.size + X.here.size + d.size ≤ 262144)
    (hO : ∀ a, Fits a → NetOk (L a) 1) (m r : Int) (hm : 0 ≤ m) (hm2 : m ≤ 1000000) (hr : 0 ≤ r) (hr2 : r ≤ 1000000) :
    RoundC nb L si ti ti X d m r (wrP X d) (arP (wrP X d) m.toNat) (rdP (arP (wrP X d) m.toNat) r.toNat) (arN (wrP X d) m.toNat) (rdS (arP (wrP X d) m.toNat) r.toNat) := by
  obtain ⟨m, rfl⟩ := Int.eq_ofNat_of_zero_le hm
  obtain ⟨r, rfl⟩ := Int.eq_ofNat_of_zero_le hr
  have fX : Fits X := by unfold Fits; omega
  have f1 := fits_wr fX d
  have f2 := fits_ar f1 m
  have f3 := fits_rd f2 r
  have e0 : wrE X d = 0 := by unfold wrE; rw [hX, if_neg (by decide), if_neg (by omega)]
  have e1 : wrP X d = ⟨X.way ++ d, X.here, false⟩ := by
    unfold wrP; rw [hX, if_neg (by decide), if_neg (by omega)]
  have ht : 2 * 0 + ti = ti := by omega
  have hts : 2 * 0 + (1 - si) = ti := by omega
  have s1 : (wrP X d).way.size = X.way.size + d.size := by rw [e1]; simp [ByteArray.size_append]
  have s1' : (wrP X d).here.size = X.here.size := by rw [e1]
  simp only [Int.toNat_natCast]
  have s2 : (arP (wrP X d) m).way.size = (wrP X d).way.size - arN (wrP X d) m := by simp [arP, ByteArray.size_extract]
  have s2' : (arP (wrP X d) m).here.size = (wrP X d).here.size + arN (wrP X d) m := by simp [arP, arN, ByteArray.size_append, ByteArray.size_extract]
  have s3 : (rdP (arP (wrP X d) m) r).way.size = (arP (wrP X d) m).way.size := rfl
  have s3' : (rdP (arP (wrP X d) m) r).here.size = (arP (wrP X d) m).here.size - rdN (arP (wrP X d) m) r := by simp [rdP, ByteArray.size_extract]
  have sx : (rdS (arP (wrP X d) m) r).size = rdN (arP (wrP X d) m) r := by simp [rdS, rdN, ByteArray.size_extract]
  have ka : arN (wrP X d) m ≤ (wrP X d).way.size := Nat.min_le_right _ _
  have kb : arN (wrP X d) m ≤ m := Nat.min_le_left _ _
  have sx' := sx.symm
  have kx : rdN (arP (wrP X d) m) r ≤ (arP (wrP X d) m).here.size := Nat.min_le_right _ _
  have shh : (rdP (arP (wrP X d) m) r).shut = false := by rw [e1]; rfl
  have pend : ∀ (a : Pipe), Fits a → ∀ W v, IsNet W nb v (L a) 1 → Calls Try.prog 15 #[.pointer (some ⟨nb, 0, none⟩), .int .i64 0, .int .i64 ti] W fun e w' => e = .returned (.tuple #[.int .i64 a.way.size, .int .i64 a.here.size, .int .i64 0]) ∧ Below W.heap.size W w' := fun a ha W v h => by
    have := pending_good W nb 1 v (L a) h (hO a ha) 0 ti (by omega) (by omega)
    rw [ht, hG] at this
    exact this
  refine ⟨fun W v h => ?_, fun W v h => ?_, fun W v h => ?_, fun W v h => ?_, fun W v h => ?_, fun W v h => ?_, hL, by omega, by omega, by omega, by omega, by omega, by omega, shh, rfl, rfl, rfl, rfl⟩
  · have := write_good W nb 1 v (L X) h (hO X fX) 0 si (by omega) hsi d (by omega)
    rw [hts, hG, e0] at this
    exact this
  · have := pend _ f1 W v h
    rw [s1, s1'] at this
    simpa using this
  · have := arrive_good W nb 1 v _ h (hO _ f1) 0 ti (by omega) (by omega) m (by omega)
    rw [ht, hG] at this
    exact this
  · have := pend _ f2 W v h
    rw [s2, s2', s1, s1', show ((X.way.size + d.size - arN (wrP X d) m : Nat) : Int) = X.way.size + d.size - arN (wrP X d) m by omega] at this
    simpa using this
  · have := read_good W nb 1 v _ h (hO _ f2) 0 ti (by omega) (by omega) r (by omega)
    rw [ht, hG] at this
    exact this
  · have := pend _ f3 W v h
    rw [s3, s3', s2, s2', s1, s1', sx', show ((X.way.size + d.size - arN (wrP X d) m : Nat) : Int) = X.way.size + d.size - arN (wrP X d) m by omega, show ((X.here.size + arN (wrP X d) m - (rdS (arP (wrP X d) m) r).size : Nat) : Int) = X.here.size + arN (wrP X d) m - (rdS (arP (wrP X d) m) r).size by omega] at this
    exact this

end Go.Proofs.Ytnbjbjpfleiogaa
