/- The law NodeWords walked: for every word and every place it returns true and leaves all that was there as it was; conditions: the word is below 2 to the 64. -/
import Derived.Test.YthplnecnagbedaaNtWorks
import Derived.Test.YthplnecnagbedaaNtRef3
namespace Go.Proofs.Ythplnecnagbedaa
open Go.RowKit

set_option maxRecDepth 100000 in
set_option maxHeartbeats 2000000 in
theorem nodeWords_any (w : World) (n0 : Int) (h0 : 0 ≤ n0 ∧ n0 ≤ 18446744073709551615) (p : Int) (_ : (Lit.int .i64 p).wf = true) :
    Calls Try.prog 3 #[.int .u64 n0, .int .i64 p] w fun e w' => e = .returned (.bool true) ∧ Below w.heap.size w w' := by
  obtain ⟨x, rfl⟩ := Int.eq_ofNat_of_zero_le h0.1
  have hx : x < 18446744073709551616 := by omega
  have hI := fun W => insert_any W x hx p
  have hJ := fun W => rinsert_any W x hx p
  have hR := fun W => remove_any W x hx p
  have hS := fun W => rremove_any W x hx p
  have hC := fun W => check_any W x hx
  have hD := fun W => rcheck_any W x hx
  unfold res3 at hI hJ hR hS
  generalize insOut x p = a at hI hJ
  generalize remOut x p = b at hR hS
  generalize chkE x = c at hC hD
  obtain ⟨a1, a2, a3⟩ := a
  obtain ⟨b1, b2, b3⟩ := b
  dsimp only at hI hJ hR hS
  go_enter Try.func3, Try.ntmps3
  go_wp2_with (first
    | (go_at_call 15; refine (hI _).mono ?_; rintro e w1 ⟨rfl, y1⟩)
    | (go_at_call 16; refine (hJ _).mono ?_; rintro e w2 ⟨rfl, y2⟩)
    | (go_at_call 17; refine (hR _).mono ?_; rintro e w3 ⟨rfl, y3⟩)
    | (go_at_call 18; refine (hS _).mono ?_; rintro e w4 ⟨rfl, y4⟩)
    | (go_at_call 19; refine (empty_any _).mono ?_; rintro e w5 ⟨rfl, y5⟩)
    | (go_at_call 20; refine (rempty_any _).mono ?_; rintro e w6 ⟨rfl, y6⟩)
    | (go_at_call 21; refine (hC _).mono ?_; rintro e w7 ⟨rfl, y7⟩)
    | (go_at_call 22; refine (hD _).mono ?_; rintro e w8 ⟨rfl, y8⟩)
    | (go_at_call 23; refine (nodeWorks_any _).mono ?_; rintro e w9 ⟨rfl, y9⟩))
  go_ret
  have c2 := y1.trans (y2.mono y1.size)
  have c3 := c2.trans (y3.mono c2.size)
  have c4 := c3.trans (y4.mono c3.size)
  have c5 := c4.trans (y5.mono c4.size)
  have c6 := c5.trans (y6.mono c5.size)
  have c7 := c6.trans (y7.mono c6.size)
  have c8 := c7.trans (y8.mono c7.size)
  exact ⟨rfl, c8.trans (y9.mono c8.size)⟩

end Go.Proofs.Ythplnecnagbedaa
