/- among and works of package hopperlaw10, each by its contract; conditions: the modulus is from 1 to 100. -/
import Derived.Test.YtmmaklddbkdenaaCkAdv
namespace Go.Proofs.Ytmmaklddbkdenaa
open Go.RowKit

theorem tmod_mod (x n : Int) : x.tmod n % n = x % n := by
  have h1 := Int.mul_tdiv_add_tmod x n
  have h2 : x % n = (n * x.tdiv n + x.tmod n) % n := by rw [h1]
  rw [h2, Int.mul_add_emod_self_left]

theorem tmod_bd (x n : Int) (h : 0 < n) : -n < x.tmod n ∧ x.tmod n < n := by
  have h1 := Int.tmod_lt_of_pos x h
  have h2 : (-x).tmod n < n := Int.tmod_lt_of_pos (-x) h
  rw [Int.neg_tmod] at h2
  omega

theorem among_any (x n : Int) (w : World) (h1 : 1 ≤ n) (h2 : n ≤ 1000) :
    Calls Try.prog 10 #[.int .i64 x, .int .i64 n] w fun e w' => e = .returned (.int .i64 (x % n)) ∧ w = w' := by
  have hb := tmod_bd x n (by omega)
  obtain ⟨b1, b2⟩ := hb
  have hm := Lib.hid (tmod_mod x n)
  by_cases h0 : 0 ≤ x
  · have b3 := Int.emod_nonneg x (show n ≠ 0 by omega)
    have b4 := Int.emod_lt_of_pos x (show 0 < n by omega)
    go_enter Try.func10, Try.ntmps10
    go_wp2
    go_ret
    exact ⟨ret_int (by rw [Int.add_emod_right]; exact Int.emod_emod_of_dvd x (Int.dvd_refl n)), rfl⟩
  · go_enter Try.func10, Try.ntmps10
    go_wp2
    go_ret
    exact ⟨ret_int hm.out, rfl⟩

def K0 : Ck := newK 2 1 1
def K1 : Ck := turnK K0 0 K0.glob
def K2 : Ck := adv K1
def K3 : Ck := adv K2
theorem k0_ok : K0.Ok := newK_ok (by decide)
theorem k1_ok : K1.Ok := turnK_ok k0_ok _ _
theorem k2_ok : K2.Ok := adv_ok k1_ok
theorem k3_ok : K3.Ok := adv_ok k2_ok

set_option maxRecDepth 100000 in
theorem lawWorks_any (w : World) : Calls Try.prog 8 #[] w fun e w' => e = .returned (.bool true) ∧ Below w.heap.size w w' := by
  have hN := new_good 2 1 1 w (by decide)
  have a1 : enterN K0 0 = 1 := by decide
  have a2 : turnE K0.ws 0 K0.glob = 0 := by decide
  have a3 : advOk K1 = true := by decide
  have a4 : advE K1 = 0 := by decide
  have a5 : advOk K2 = false := by decide
  have a6 : advE K2 = 0 := by decide
  have a7 : K3.glob = 2 := by decide
  have o0 := k0_ok
  have o1 := k1_ok
  have o2 := k2_ok
  go_enter Try.func8, Try.ntmps8
  go_wp2_with (first | (go_at_call 9; refine hN.mono ?_; rintro e w1 ⟨rfl, h1, b1⟩) | (go_at_call 11; refine (enter_any _ _ _ _ K0 h1 o0 0).mono ?_; rintro e w2 ⟨rfl, h2, c2⟩) | (go_at_call 14; refine (advance_any _ _ _ _ K2 h3 o2).mono ?_; rintro e w4 ⟨rfl, h4, c4⟩) | (go_at_call 14; refine (advance_any _ _ _ _ K1 h2 o1).mono ?_; rintro e w3 ⟨rfl, h3, c3⟩) | (go_at_call 13; refine (global_any _ _ _ _ K3 h4).mono ?_; rintro e w5 ⟨rfl, rfl⟩))
  go_ret
  refine ⟨rfl, ?_⟩
  have z1 := b1.size
  have z2 := c2.size
  have z3 := c3.size
  exact below_chg (below_chg (below_chg b1 c2 (by omega) (by simp)) c3 (by omega) (by simp)) c4 (by omega) (by simp)

end Go.Proofs.Ytmmaklddbkdenaa
