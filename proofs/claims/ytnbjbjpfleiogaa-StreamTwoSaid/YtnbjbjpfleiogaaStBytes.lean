/- What one side wrote and the other read, as bytes: nothing is lost in a round; conditions: none. -/
import Derived.Test.YtnbjbjpfleiogaaStPieces
namespace Go.Proofs.Ytnbjbjpfleiogaa
open Go.RowKit

/-- All that a pipe holds, in order. -/
def held (p : Pipe) : ByteArray := p.here ++ p.way
theorem held_wr {X : Pipe} {d : ByteArray} (h : wrP X d = ⟨X.way ++ d, X.here, false⟩) : held (wrP X d) = held X ++ d := by
  rw [h]; unfold held; rw [ByteArray.append_assoc]
theorem cut_join (a : ByteArray) (k : Nat) (h : k ≤ a.size) : a.extract 0 k ++ a.extract k a.size = a := by
  rw [ByteArray.extract_append_extract]; simp [Nat.max_eq_right h]
theorem held_ar (X : Pipe) (m : Nat) : held (arP X m) = held X := by
  unfold held arP
  have := cut_join X.way (arN X m) (Nat.min_le_right _ _)
  rw [ByteArray.append_assoc, this]
theorem held_rd (X : Pipe) (m : Nat) : rdS X m ++ held (rdP X m) = held X := by
  unfold held rdP rdS
  have := cut_join X.here (rdN X m) (Nat.min_le_right _ _)
  dsimp only
  rw [← ByteArray.append_assoc, this]
theorem held_round {X : Pipe} {d : ByteArray} (hX : X.shut = false) (hf : X.way.size + X.here.size + d.size ≤ 262144) (m r : Nat) :
    rdS (arP (wrP X d) m) r ++ held (rdP (arP (wrP X d) m) r) = held X ++ d := by
  rw [held_rd, held_ar, held_wr]
  unfold wrP
  rw [hX, if_neg (by decide), if_neg (by omega)]

end Go.Proofs.Ytnbjbjpfleiogaa
