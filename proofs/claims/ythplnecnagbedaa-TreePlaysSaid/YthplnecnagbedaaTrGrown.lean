/- grown of the tree's laws by contract: a tree behind at most 200 calls; conditions: the acts read. -/
import Derived.Test.YthplnecnagbedaaTrWorks2
namespace Go.Proofs.Ythplnecnagbedaa
open Go.RowKit

/-- A tree of the call's own. -/
def GrownP (w : World) (e : Ending) (w' : World) : Prop := ∃ M T, e = .returned (.pointer (some ⟨M.tb, 0, none⟩)) ∧ TS w.heap.size w' M T 200 ∧ Below w.heap.size w w'
/-- Between two rounds. -/
def GrS (B tb n : Nat) (w : World) : Prop := ∃ M T, M.tb = tb ∧ TS B w M T n
set_option maxRecDepth 100000 in
set_option maxHeartbeats 2000000 in
theorem grown_any (w : World) (ao : Option Addr) (len cap : Nat) (A : List ActT) (hA : A.length = len) (_hl : len ≤ 9223372036854775807) (hr : RdT w w.heap.size ao A) :
    Calls Try.prog 48 #[.slice ao len cap] w (GrownP w) := by
  have HA := Lib.hid hA
  have HR := Lib.hid hr
  clear hA hr
  go_enter Try.func48, Try.ntmps48
  go_wp2_with (go_at_call 40; refine (new_ts _).mono ?_; rintro e w1 ⟨M0, T0, rfl, hS0, hE0, b1⟩)
  have HG0 := Lib.hid (show GrS w.heap.size M0.tb 0 w1 from ⟨M0, T0, rfl, hS0⟩)
  have HB1 := Lib.hid b1
  clear hS0 hE0 b1
  generalize M0.tb = tb at *
  go_loopg [4] 200 (fun gn i wr => ∃ j : Nat, j ≤ 200 ∧ j ≤ len ∧ i = .int .i64 j ∧ gn = 200 - j ∧ GrS w.heap.size tb j wr ∧ Below w.heap.size w wr)
  case atStart => exact ⟨0, Nat.zero_le _, Nat.zero_le _, rfl, rfl, HG0.out, HB1.out⟩
  case round =>
    obtain ⟨j, hj, hjl, rfl, rfl, hG, hb⟩ := hrel
    have HG := Lib.hid hG
    have HB := Lib.hid hb
    clear hG hb HG0 HB1
    have hz : w.heap.size ≤ wr.heap.size := HB.out.size
    by_cases hgo : j < len ∧ j < 200
    · obtain ⟨h1, h2⟩ := hgo
      obtain ⟨b, off, rfl, hbB, c0, c1, c2, c3⟩ := (HR.out.below HB.out) j (by rw [HA.out]; exact h1)
      generalize (A.getD j actT0) = act at c0 c1 c2 c3
      obtain ⟨kd_, ky, kt, vl⟩ := act
      dsimp only at c0 c1 c2 c3
      have hA3 := amongT kd_ 3 wr (by omega) (by omega)
      have hji : (j : Int) < (len : Int) := by omega
      have hj2 : (j : Int) < 200 := by omega
      have hj0 : (0 : Int) ≤ (j : Int) := by omega
      obtain ⟨M, T, htb, hS⟩ := HG.out
      by_cases h3 : kd_ % 3 = 2
      · rw [h3] at hA3
        have hT := take_ts hS (by omega) ky
        rw [htb] at hT
        have HS := Lib.hid hS
        have HTB := Lib.hid htb
        clear h3 hS htb
        go_wp2_with (first
          | (go_at_call 46; refine hT.mono ?_; rintro e w3 ⟨T', M', r0, r1, hP, rfl, hS', hF⟩)
          | (go_at_call 42; refine hA3.mono ?_; rintro e w2 ⟨rfl, rfl⟩))
        go_roundg (200 - (j + 1))
        case rel => exact ⟨j + 1, by omega, by omega, by go_num, rfl, ⟨M', T', hF.tb.trans HTB.out, hS'⟩, HB.out.trans (hF.bel HS.out)⟩
        case measure => omega
      · have hne : ((kd_ % 3) == 2) = false := by simpa using h3
        generalize kd_ % 3 = r3 at *
        have hP := put_ts hS.drew (by omega) ky vl
        rw [htb] at hP
        have HS := Lib.hid hS
        have HTB := Lib.hid htb
        clear hS htb
        go_upto_region 7 with (go_at_call 42; refine hA3.mono ?_; rintro e w2 ⟨rfl, rfl⟩)
        go_region_with (go_at_call 43; refine hP.mono ?_; rintro e w3 ⟨T', M', r0, r1, r2, hPT, rfl, hS', hF⟩)
        all_goals
          go_wp2_with fail
          go_roundg (200 - (j + 1))
          case rel => exact ⟨j + 1, by omega, by omega, by go_num, rfl, ⟨M', T', hF.tb.trans HTB.out, hS'⟩, (HB.out.drew).trans (hF.bel HS.out.drew)⟩
          case measure => omega
    · have hfin : GrS w.heap.size tb 200 wr := by obtain ⟨M, T, h1, h2⟩ := HG.out; exact ⟨M, T, h1, h2.mono (by omega)⟩
      have HF := Lib.hid hfin
      clear hfin
      by_cases h1 : j < len
      · have h2 : ¬ ((j : Int) < 200) := by omega
        have h1' : (j : Int) < (len : Int) := by omega
        go_wp2_with fail
        go_ret
        obtain ⟨M, T, h1, h2⟩ := HF.out
        exact ⟨M, T, by rw [h1]; rfl, h2, HB.out⟩
      · have h1' : ¬ ((j : Int) < (len : Int)) := by omega
        go_wp2_with fail
        go_ret
        obtain ⟨M, T, h1, h2⟩ := HF.out
        exact ⟨M, T, by rw [h1]; rfl, h2, HB.out⟩

end Go.Proofs.Ythplnecnagbedaa
