/- New of both clocks, wherever they lay the new one; conditions: the numbers are in their bounds. -/
import Derived.Test.YtmmaklddbkdenaaBothPure
namespace Go.Proofs.Ytmmaklddbkdenaa
open Go.RowKit

/-- A new clock, wherever it lies. -/
def NewSomeE (n e g : Int) (W : World) (x : Ending) (w' : World) : Prop :=
  ∃ c bw, x = .returned (.tuple #[.pointer (some ⟨c, 0, none⟩), .int .i64 0]) ∧ IsClock w' c bw (.slice none 0 0) (newK n e g) ∧ W.heap.size ≤ c ∧ W.heap.size ≤ bw ∧ Below W.heap.size W w'
theorem new_any (n e g : Int) (W : World) (hb : newBad n e g = false) : Calls Try.prog 9 #[.int .i64 n, .int .i64 e, .int .i64 g] W (NewSomeE n e g W) :=
  (new_good n e g W hb).mono fun x w' ⟨h1, h2, h3⟩ => ⟨_, _, h1, h2, by omega, by omega, h3⟩
def RNewSomeE (n e g : Int) (W : World) (x : Ending) (w' : World) : Prop :=
  ∃ r rw, x = .returned (.tuple #[.pointer (some ⟨r, 0, none⟩), .int .i64 0]) ∧ IsRef w' r rw (.slice none 0 0) (.slice none 0 0) (newK n e g) ∧ W.heap.size ≤ r ∧ W.heap.size ≤ rw ∧ Below W.heap.size W w'
theorem rnew_any (n e g : Int) (W : World) (hb : newBad n e g = false) : Calls Try.prog 18 #[.int .i64 n, .int .i64 e, .int .i64 g] W (RNewSomeE n e g W) :=
  (rnew_good n e g W hb).mono fun x w' ⟨h1, h2, h3⟩ => ⟨_, _, h1, h2, by omega, by omega, h3⟩

end Go.Proofs.Ytmmaklddbkdenaa
