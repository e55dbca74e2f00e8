/- A number's six digits as a text: number by contract; conditions: below a million. -/
import Derived.Test.YthplnecnagbedaaTmPure
import Derived.Test.YthplnecnagbedaaNdKit
import Derived.Laws.IdiomStrings
namespace Go.Proofs.Ythplnecnagbedaa
open Go.RowKit

def dD (n s j : Nat) : Int := if s ≤ j then ((48 + n / 10 ^ (5 - j) % 10 : Nat) : Int) else 48
def csD (n s : Nat) : Array Value := #[.int .u8 (dD n s 0), .int .u8 (dD n s 1), .int .u8 (dD n s 2), .int .u8 (dD n s 3), .int .u8 (dD n s 4), .int .u8 (dD n s 5)]
theorem csD_size (n s : Nat) : (csD n s).size = 6 := rfl
theorem csD_set (n s : Nat) (hs : s < 6) : (csD n (s + 1)).setIfInBounds s (.int .u8 ((48 + n / 10 ^ (5 - s) % 10 : Nat) : Int)) = csD n s := by
  obtain rfl | rfl | rfl | rfl | rfl | rfl : s = 0 ∨ s = 1 ∨ s = 2 ∨ s = 3 ∨ s = 4 ∨ s = 5 := by omega
  all_goals simp [csD, dD]
theorem csD_six (n : Nat) : csD n 6 = #[.int .u8 48, .int .u8 48, .int .u8 48, .int .u8 48, .int .u8 48, .int .u8 48] := rfl
theorem csD_at (n : Nat) (hn : n < 1000000) (j : Nat) (hj : j < (dig 6 n).length) : (csD n 0)[j]? = some (.int .u8 (((dig 6 n)[j]).toNat : Int)) := by
  have hj6 : j < 6 := hj
  have e : ∀ x, x < 10 → (UInt8.ofNat (48 + x)).toNat = 48 + x := fun x hx => by rw [UInt8.toNat_ofNat']; omega
  obtain rfl | rfl | rfl | rfl | rfl | rfl : j = 0 ∨ j = 1 ∨ j = 2 ∨ j = 3 ∨ j = 4 ∨ j = 5 := by omega
  all_goals
    simp only [csD, dD, dig, Nat.zero_le, if_true, List.getElem_cons_zero, List.getElem_cons_succ]
    rw [e _ (by omega)]
    simp
    try omega
theorem build6 (w : World) : (Instr.buildSlice 112 6 #[(0, .int .u8 48), (1, .int .u8 48), (2, .int .u8 48), (3, .int .u8 48), (4, .int .u8 48), (5, .int .u8 48)]).run Try.prog w = .ok (.slice (some ⟨w.heap.size, 0, none⟩) 6 6) (w.alloc (.cells #[.int .u8 48, .int .u8 48, .int .u8 48, .int .u8 48, .int .u8 48, .int .u8 48] 5)) := by kernel_rfl

set_option maxRecDepth 100000 in
set_option maxHeartbeats 1000000 in
theorem number_any (w : World) (n : Nat) (hn : n < 1000000) : Calls Try.prog 44 #[.int .i64 n] w fun e w' => e = .returned (.string (numB n)) ∧ Below w.heap.size w w' := by
  have hb6 := build6
  go_enter Try.func44, Try.ntmps44
  go_wp2_with fail
  have hI0 : Blk (w.alloc (.cells #[.int .u8 48, .int .u8 48, .int .u8 48, .int .u8 48, .int .u8 48, .int .u8 48] 5)) w.heap.size 5 (csD n 6) := Blk.new _ _ _
  have hB0 : Below w.heap.size w (w.alloc (.cells #[.int .u8 48, .int .u8 48, .int .u8 48, .int .u8 48, .int .u8 48, .int .u8 48] 5)) := (Below.refl _ w).alloc (Nat.le_refl _) _
  have HI0 := Lib.hid hI0
  have HB0 := Lib.hid hB0
  clear hI0 hB0 hb6
  go_loopg [0, 4] (6 - (6 - 6)) (fun gn nv iv wr => ∃ r : Nat, r ≤ 6 ∧ nv = .int .i64 ((n / 10 ^ (6 - r) : Nat) : Int) ∧ iv = .int .i64 ((r : Int) - 1) ∧ gn = 6 - (6 - r) ∧ Blk wr w.heap.size 5 (csD n r) ∧ Below w.heap.size w wr)
  case atStart => exact ⟨6, Nat.le_refl _, by simp, rfl, rfl, HI0.out, HB0.out⟩
  case round =>
    clear HI0 HB0
    obtain ⟨r, hr, rfl, rfl, rfl, hI, hB⟩ := hrel
    by_cases hr0 : 0 < r
    · obtain ⟨s, rfl⟩ : ∃ s, r = s + 1 := ⟨r - 1, by omega⟩
      have hs1 : ((s + 1 : Nat) : Int) - 1 = (s : Int) := by omega
      rw [hs1]
      have hnx : n / 10 ^ (6 - s) = n / 10 ^ (6 - (s + 1)) / 10 := by
        rw [Nat.div_div_eq_div_mul, ← Nat.pow_succ, show (6 - (s + 1)).succ = 6 - s from by omega]
      have hset := csD_set n s (by omega)
      rw [show 5 - s = 6 - (s + 1) from by omega] at hset
      have hx6 : n / 10 ^ (6 - (s + 1)) < 1000000 := Nat.lt_of_le_of_lt (Nat.div_le_self _ _) hn
      generalize n / 10 ^ (6 - (s + 1)) = x at hnx hset hx6 ⊢
      have hr10 : Int.tmod (x : Int) 10 = ((x % 10 : Nat) : Int) := by rw [Int.tmod_eq_emod_of_nonneg (by omega)]; omega
      have hq10 : Int.tdiv (x : Int) 10 = ((x / 10 : Nat) : Int) := by rw [Int.tdiv_eq_ediv_of_nonneg (by omega)]; omega
      have hd : x % 10 < 10 := Nat.mod_lt _ (by omega)
      have hI2 := hI.set s (.int .u8 ((48 + x % 10 : Nat) : Int))
      rw [hset] at hI2
      have hf := hI.free s
      have hlt := hI.lt
      obtain ⟨u, hu⟩ : ∃ u, wr.cell? ⟨w.heap.size, s, none⟩ = some u := by
        obtain rfl | rfl | rfl | rfl | rfl | rfl : s = 0 ∨ s = 1 ∨ s = 2 ∨ s = 3 ∨ s = 4 ∨ s = 5 := by omega
        all_goals exact ⟨_, hI.at _ rfl⟩
      have HI2 := Lib.hid hI2
      have HB := Lib.hid hB
      have HNX := Lib.hid hnx
      have hs0 : (0 : Int) ≤ (s : Int) := by omega
      have hs6 : (s : Int) < 6 := by omega
      clear hI hB hI2 hset hnx hs1
      generalize x % 10 = d at hr10 hd HI2
      go_wp2_with fail
      go_roundg (6 - (6 - s))
      case rel => exact ⟨s, by omega, by rw [HNX.out, Int.natCast_ediv]; rfl, rfl, rfl, (by first | exact HI2.out | simpa using HI2.out), HB.out.setCell (Nat.le_refl _) _⟩
      case measure => omega
    · obtain rfl : r = 0 := by omega
      have HI := Lib.hid hI
      have HB := Lib.hid hB
      have hcv := run_convert_bytes_back (P := Try.prog) wr 112 9 5 ⟨w.heap.size, 0, none⟩ 6 (dig 6 n) Try.underlying112 Try.underlying5 Try.underlying9 (fun j hj => by rw [Addr.add_lit, Nat.zero_add]; exact hI.at j (csD_at n hn j hj))
      have hcv2 : (convert 112 9 (.slice (some ⟨w.heap.size, 0, none⟩) 6 6)).run Try.prog wr = .ok (.string (numB n)) wr := hcv
      clear hI hB hcv
      go_wp2_with fail
      go_ret
      exact ⟨rfl, HB.out⟩

end Go.Proofs.Ythplnecnagbedaa
