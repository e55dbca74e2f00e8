/- The book's SameInts over two rows of the same numbers; SpoilInts over a row of the call's own; conditions: at most 100000 of them. -/
import Derived.Test.YtmmaklddbkdenaaRefFree
import Derived.BigQuiet
import Derived.Deep.QuietTactic
namespace Go.Proofs.Ytmmaklddbkdenaa
open Go.RowKit

set_option maxRecDepth 100000 in
set_option maxHeartbeats 2000000 in
theorem sameInts_any (w : World) (a b : Value) (l : List Int) (B1 B2 : Nat) (ha : Own1 B1 w a l) (hb : Own1 B2 w b l) (hl : l.length ≤ 100000) :
    Calls Try.prog 30 #[a, b] w fun e w' => e = .returned (.bool true) ∧ Below w.heap.size w w' := by
  obtain ⟨A, cap, rfl, _⟩ := own_form ha
  obtain ⟨A2, cap2, rfl, _⟩ := own_form hb
  have HA := Lib.hid ha
  have HB := Lib.hid hb
  clear ha hb
  go_enter Try.func30, Try.ntmps30
  go_wp2_with fail
  go_loopg [5] l.length (fun gn iv wr => ∃ j : Nat, iv = .int .i64 j ∧ j ≤ l.length ∧ gn = l.length - j ∧ Below w.heap.size w wr)
  case atStart => exact ⟨0, rfl, Nat.zero_le _, rfl, Below.refl _ _⟩
  case round =>
    obtain ⟨j, rfl, hj, rfl, hbw⟩ := hrel
    by_cases hjl : j < l.length
    · obtain ⟨g, rfl, _, hg, cA⟩ := own_at (u := .int .i64 (l.getD j 0)) HA.out hjl (by simp [List.getD, hjl])
      obtain ⟨g2, rfl, _, hg2, cB⟩ := own_at (u := .int .i64 (l.getD j 0)) HB.out hjl (by simp [List.getD, hjl])
      have dA := (hbw.cell (p := ⟨g, j, none⟩) hg).trans cA
      have dB := (hbw.cell (p := ⟨g2, j, none⟩) hg2).trans cB
      clear cA cB
      generalize l.getD j 0 = x at dA dB
      have hji : (j : Int) < (l.length : Int) := by omega
      go_wp2_with fail
      go_quiet (fail)
      go_wp2_with fail
      go_roundg (l.length - (j + 1))
      case rel => exact ⟨j + 1, by go_num, by omega, rfl, by (repeat first | with_reducible refine Below.drew ?_ | with_reducible refine below_drewN ?_ _ | with_reducible refine Below.alloc ?_ (by simp only [World.size_alloc, World.size_setCell, World.size_drew, World.heap_drewN]; omega) _ | with_reducible refine Below.setCell ?_ (by dsimp only; omega) _); exact hbw⟩
      case measure => omega
    · obtain rfl : j = l.length := by omega
      go_wp2_with fail
      go_ret
      exact ⟨rfl, hbw⟩

set_option maxRecDepth 100000 in
set_option maxHeartbeats 2000000 in
theorem spoilInts_any (w : World) (v : Value) (l : List Int) (B : Nat) (hv : Own1 B w v l) (x : Int) :
    Calls Try.prog 32 #[v, .int .i64 x] w fun e w' => e = .returned (.tuple #[]) ∧ Chg v.ownBlock.toList w w' := by
  rcases hv.2 with ⟨rfl, h0⟩ | ⟨g, cap, cur, rfl, _, hg, h3, h4, h5, _⟩
  · go_enter Try.func32, Try.ntmps32
    go_wp2_with fail
    go_loopg [4] 0 (fun gn iv wr => iv = .int .i64 0 ∧ gn = 0 ∧ wr = w)
    case atStart => exact ⟨rfl, rfl, rfl⟩
    case round =>
      obtain ⟨rfl, rfl, rfl⟩ := hrel
      go_wp2_with fail
      go_end0
      exact ⟨rfl, Chg.refl _ _⟩
  · have hgb : Blk w g 3 cur := hg
    have hsz : cur.size = cap := by omega
    have hm : cap ≤ 9223372036854775807 := by unfold maxLen at h4; omega
    have hcap0 : (0 : Int) ≤ (cap : Int) := by omega
    have hcc : (cap : Int) ≤ (cap : Int) := by omega
    go_enter Try.func32, Try.ntmps32
    go_wp2_with fail
    go_loopg [4] cap (fun gn iv wr => ∃ (j : Nat) (cs : Array Value), iv = .int .i64 j ∧ j ≤ cap ∧ gn = cap - j ∧ Blk wr g 3 cs ∧ cs.size = cap ∧ Chg [g] w wr)
    case atStart => exact ⟨0, cur, rfl, Nat.zero_le _, rfl, hgb, hsz, Chg.refl _ _⟩
    case round =>
      obtain ⟨j, cs, rfl, hj, rfl, hB, hcs, hc⟩ := hrel
      by_cases hjl : j < cap
      · have hji : (j : Int) < (cap : Int) := by omega
        have f0 := hB.free j
        have c0 := hB.at j (v := cs[j]'(by omega)) (by simp [hcs, hjl])
        generalize cs[j]'(by omega) = old at c0
        go_wp2_with fail
        go_roundg (cap - (j + 1))
        case rel => exact ⟨j + 1, cs.setIfInBounds j (.int .i64 x), by go_num, by omega, rfl, hB.set j _, by simpa using hcs, hc.setCell (.inl (by simp)) _⟩
        case measure => omega
      · obtain rfl : j = cap := by omega
        go_wp2_with fail
        go_end0
        exact ⟨rfl, by simpa [Value.ownBlock] using hc⟩

end Go.Proofs.Ytmmaklddbkdenaa
