/- The law NodeUndone walked: for every word and every two places it returns true and leaves all that was there as it was; conditions: the word is below 2 to the 64. -/
import Derived.Test.YthplnecnagbedaaNtWorks
namespace Go.Proofs.Ythplnecnagbedaa
open Go.RowKit

theorem ins_slot_ne {x k : Nat} (hk : k ≤ x % 16) (hu : x % 16 < 15) (hok : OkL (slotsL x)) (a : Nat) (ha : slotsL a = mvL (slotsL x) (x % 16) k) (hua : a % 16 = x % 16 + 1) (h15 : a % 16 < 15) :
    (slotsL a).getD (a % 16) 0 ≠ (slotsL x).getD (x % 16) 0 := by
  have hl := slots_len x
  have h1 : x % 16 < (slotsL x).length := by omega
  have h2 : k < (slotsL x).length := by omega
  have hok' := okL_mv h1 h2 hok
  rw [← mv_get h1 h2, ← ha]
  rw [← ha] at hok'
  have hla := slots_len a
  rw [getD_of (by omega), getD_of (by omega)]
  intro e
  exact List.pairwise_iff_getElem.1 hok'.1 k (a % 16) (by omega) (by omega) (by omega) e.symm

set_option maxRecDepth 100000 in
set_option maxHeartbeats 2000000 in
theorem nodeUndone_any (w : World) (n0 : Int) (h0 : 0 ≤ n0 ∧ n0 ≤ 18446744073709551615) (p : Int) (_ : (Lit.int .i64 p).wf = true) (q : Int) (_ : (Lit.int .i64 q).wf = true) :
    Calls Try.prog 4 #[.int .u64 n0, .int .i64 p, .int .i64 q] w fun e w' => e = .returned (.bool true) ∧ Below w.heap.size w w' := by
  obtain ⟨x, rfl⟩ := Int.eq_ofNat_of_zero_le h0.1
  have hx : x < 18446744073709551616 := by omega
  have hW := nodeWorks_any w
  have hI := fun W => insert_any W x hx p
  by_cases hg : (insOut x p).2.2 = 0
  · obtain ⟨k, rfl, hk, hu, hok, he⟩ := ins_good hg
    have ir := ins_rem hx hk hu hok
    have hne := ins_slot_ne hk hu hok
    rw [he] at hI
    clear he hg
    dsimp only at ir
    obtain ⟨ra, rb, rc, rd, re⟩ := ir
    have hne' := fun h => hne _ ra rb h
    clear hne
    generalize wordL (x % 16 + 1) (mvL (slotsL x) (x % 16) k) = a at hI ra rb rc rd re hne'
    generalize (slotsL x).getD (x % 16) 0 = s at hI re hne'
    have hR := fun W => remove_any W a rc k
    rw [re] at hR
    have hC := fun W => check_any W a rc
    have hce : chkE a = 0 := if_pos rd
    rw [hce] at hC
    have hJ := fun W => insert_any W a rc q
    clear ra rb hk hu hok hce re
    by_cases hg2 : (insOut a q).2.2 = 0
    · obtain ⟨k2, rfl, hk2, hu2, hok2, he2⟩ := ins_good hg2
      have ir2 := ins_rem rc hk2 hu2 hok2
      have hns := hne' hu2
      rw [he2] at hJ
      dsimp only at ir2
      obtain ⟨_, _, rc2, _, re2⟩ := ir2
      generalize wordL (a % 16 + 1) (mvL (slotsL a) (a % 16) k2) = c at hJ rc2 re2
      generalize (slotsL a).getD (a % 16) 0 = s2 at hJ re2 hns
      have hR2 := fun W => remove_any W c rc2 k2
      rw [re2] at hR2
      have hns' : (((s2 : Nat) : Int) != ((s : Nat) : Int)) = true := by simp; omega
      clear he2 hg2 hk2 hu2 hok2 rd re2 hns hne'
      unfold res3 at hI hR hJ hR2
      dsimp only at hI hR hJ hR2
      go_enter Try.func4, Try.ntmps4
      go_upto_region 4 with (first
        | (go_at_call 23; refine hW.mono ?_; rintro e w1 ⟨rfl, b1⟩)
        | (go_at_call 15; refine (hI _).mono ?_; rintro e w2 ⟨rfl, b2⟩))
      clear hI
      go_upto_region 9 with (first
        | (go_at_call 21; refine (hC _).mono ?_; rintro e w4 ⟨rfl, b4⟩)
        | (go_at_call 17; refine (hR _).mono ?_; rintro e w3 ⟨rfl, b3⟩))
      clear hR
      go_wp2_with (first
        | (go_at_call 17; refine (hR2 _).mono ?_; rintro e w6 ⟨rfl, b6⟩)
        | (go_at_call 15; refine (hJ _).mono ?_; rintro e w5 ⟨rfl, b5⟩))
      go_ret
      have c2 := b1.trans (b2.mono b1.size)
      have c3 := c2.trans (b3.mono c2.size)
      have c4 := c3.trans (b4.mono c3.size)
      have c5 := c4.trans (b5.mono c4.size)
      exact ⟨rfl, c5.trans (b6.mono c5.size)⟩
    · have hg' : ((insOut a q).2.2 != 0) = true := by simp [hg2]
      unfold res3 at hI hR hJ
      dsimp only at hI hR hJ
      generalize insOut a q = o at hJ hg' hg2
      obtain ⟨o1, o2, o3⟩ := o
      dsimp only at hJ hg' hg2
      clear rd hne' hg2
      go_enter Try.func4, Try.ntmps4
      go_upto_region 4 with (first
        | (go_at_call 23; refine hW.mono ?_; rintro e w1 ⟨rfl, b1⟩)
        | (go_at_call 15; refine (hI _).mono ?_; rintro e w2 ⟨rfl, b2⟩))
      clear hI
      go_upto_region 9 with (first
        | (go_at_call 21; refine (hC _).mono ?_; rintro e w4 ⟨rfl, b4⟩)
        | (go_at_call 17; refine (hR _).mono ?_; rintro e w3 ⟨rfl, b3⟩))
      clear hR
      go_wp2_with (go_at_call 15; refine (hJ _).mono ?_; rintro e w5 ⟨rfl, b5⟩)
      go_ret
      have c2 := b1.trans (b2.mono b1.size)
      have c3 := c2.trans (b3.mono c2.size)
      have c4 := c3.trans (b4.mono c3.size)
      exact ⟨rfl, c4.trans (b5.mono c4.size)⟩
  · have hg' : ((insOut x p).2.2 != 0) = true := by simp [hg]
    obtain ⟨e1, e2⟩ := ins_bad hg
    unfold res3 at hI
    rw [e1, e2] at hI
    generalize (insOut x p).2.2 = o at hI hg' hg
    clear hg
    go_enter Try.func4, Try.ntmps4
    go_wp2_with (first
      | (go_at_call 23; refine hW.mono ?_; rintro e w1 ⟨rfl, b1⟩)
      | (go_at_call 15; refine (hI _).mono ?_; rintro e w2 ⟨rfl, b2⟩))
    go_ret
    exact ⟨rfl, b1.trans (b2.mono b1.size)⟩

end Go.Proofs.Ythplnecnagbedaa
