/- works of package hopperlaw12, by its contract; conditions: none. -/
import Derived.Test.YthplnecnagbedaaNtInsert
namespace Go.Proofs.Ythplnecnagbedaa
open Go.RowKit

theorem ins_c1 : insOut 17134975606245761280 0 = (17134975606245761281, 0, 0) := by decide
theorem ins_c2 : insOut 17134975606245761281 0 = (17134975606245761042, 1, 0) := by decide
theorem rem_c3 : remOut 17134975606245761042 1 = (17134975606245761041, 0, 0) := by decide

set_option maxRecDepth 100000 in
set_option maxHeartbeats 1000000 in
theorem nodeWorks_any (w : World) : Calls Try.prog 23 #[] w fun e w' => e = .returned (.bool true) ∧ Below w.heap.size w w' := by
  have hE := empty_any
  have h1 : ∀ W, Calls Try.prog 15 #[.int .u64 17134975606245761280, .int .i64 0] W fun e w' => e = .returned (.tuple #[.int .u64 17134975606245761281, .int .i64 0, .int .i64 0]) ∧ Below W.heap.size W w' := fun W => by
    have := insert_any W 17134975606245761280 (by omega) 0
    rw [ins_c1] at this; exact this
  have h2 : ∀ W, Calls Try.prog 15 #[.int .u64 17134975606245761281, .int .i64 0] W fun e w' => e = .returned (.tuple #[.int .u64 17134975606245761042, .int .i64 1, .int .i64 0]) ∧ Below W.heap.size W w' := fun W => by
    have := insert_any W 17134975606245761281 (by omega) 0
    rw [ins_c2] at this; exact this
  have h3 : ∀ W, Calls Try.prog 17 #[.int .u64 17134975606245761042, .int .i64 1] W fun e w' => e = .returned (.tuple #[.int .u64 17134975606245761041, .int .i64 0, .int .i64 0]) ∧ Below W.heap.size W w' := fun W => by
    have := remove_any W 17134975606245761042 (by omega) 1
    rw [rem_c3] at this; exact this
  go_enter Try.func23, Try.ntmps23
  go_upto_region 2 with (first
    | (go_at_call 19; refine (hE _).mono ?_; rintro e w1 ⟨rfl, b1⟩)
    | (go_at_call 15; refine (h1 _).mono ?_; rintro e w2 ⟨rfl, b2⟩))
  clear h1
  go_upto_region 3 with (go_at_call 15; refine (h2 _).mono ?_; rintro e w3 ⟨rfl, b3⟩)
  clear h2
  go_wp2_with (first
    | (go_at_call 19; refine (hE _).mono ?_; rintro e w5 ⟨rfl, b5⟩)
    | (go_at_call 17; refine (h3 _).mono ?_; rintro e w4 ⟨rfl, b4⟩))
  go_ret
  have c2 := b1.trans (b2.mono b1.size)
  have c3 := c2.trans (b3.mono c2.size)
  have c4 := c3.trans (b4.mono c3.size)
  exact ⟨rfl, c4.trans (b5.mono c4.size)⟩

end Go.Proofs.Ythplnecnagbedaa
