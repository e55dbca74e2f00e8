/- The law StreamPlays walked: for every list of acts it returns true and leaves all that was there as it was; conditions: texts are no longer than may come in. -/
import Derived.Test.YtnbjbjpfleiogaaStAny
namespace Go.Proofs.Ytnbjbjpfleiogaa
open Go.RowKit

/-- Two nets of the call's own, alike; below block B nothing has changed since w0. -/
structure Alike (B : Nat) (w0 w : World) (nb rb K : Nat) : Prop where
  x : ∃ n ps ys v u, IsNet w nb v ps n ∧ IsRef w rb u ys n ∧ NetOk ps n ∧ SimL ps ys ∧ AllLe ys K ∧ (∀ g, v.ownBlock = some g → B ≤ g) ∧ (∀ g, u.ownBlock = some g → B ≤ g)
  bel : Below B w0 w
  bn : B ≤ nb
  br : B ≤ rb
  sz : B ≤ w.heap.size

theorem nil_own (B : Nat) : ∀ g, (Value.slice none 0 0).ownBlock = some g → B ≤ g := fun g h => by cases h
theorem simL_nil : SimL [] [] := ⟨rfl, fun q => by simp [List.getD]; exact sim0⟩
theorem allLe_nil (K : Nat) : AllLe [] K := fun q => by simp only [List.getD, List.getElem?_nil]; exact Nat.zero_le _

theorem Alike.step {B : Nat} {w0 w : World} {nb rb K : Nat} (h : Alike B w0 w nb rb K) (hK2 : K ≤ 100000000) (kd cn sd nn : Int) (d : ByteArray) (hd : d.size ≤ 140737488355328) (hnn : -9223372036854775808 ≤ nn ∧ nn ≤ 9223372036854775807) :
    Calls Try.prog 19 #[.pointer (some ⟨nb, 0, none⟩), .pointer (some ⟨rb, 0, none⟩), .agg #[.int .i64 kd, .int .i64 cn, .int .i64 sd, .int .i64 nn, .string d]] w fun e w' => e = .returned (.bool true) ∧ Alike B w0 w' nb rb (K + 262144) := by
  obtain ⟨n, ps, ys, v, u, i, r, ok, hS, hK, hv, hu⟩ := h.x
  refine (step_any w nb rb v u ps ys n K i r ok hS hK hK2 kd cn sd nn d hd hnn).mono ?_
  rintro e w' ⟨he, n', ps', ys', v', u', i', r', ok', hS', hK', c, fv, fu⟩
  refine ⟨he, ⟨n', ps', ys', v', u', i', r', ok', hS', hK', fun g hg => ?_, fun g hg => ?_⟩, below_chg h.bel c h.sz (fun q hq => ?_), h.bn, h.br, Nat.le_trans h.sz c.size⟩
  · rcases fv g hg with h1 | h1
    · exact hv g h1
    · exact Nat.le_trans h.sz h1
  · rcases fu g hg with h1 | h1
    · exact hu g h1
    · exact Nat.le_trans h.sz h1
  · simp only [List.mem_cons, List.mem_append, Option.mem_toList] at hq
    rcases hq with rfl | rfl | hq | hq
    · exact h.bn
    · exact h.br
    · exact hv q hq
    · exact hu q hq

set_option maxRecDepth 100000 in
set_option maxHeartbeats 2000000 in
theorem streamPlays_any (w : World) (ao : Option Addr) (len cap : Nat) (A : List ActR) (hA : A.length = len) (hl : len ≤ 9223372036854775807) (hrd : RdA w w.heap.size ao A) :
    Calls Try.prog 6 #[.slice ao len cap] w fun e w' => e = .returned (.bool true) ∧ Below w.heap.size w w' := by
  have hN := new_any w
  have hM := fun W => rnew_any W
  have hW := fun W => lawWorks_any W
  have HA := Lib.hid hA
  clear hA
  go_enter Try.func6, Try.ntmps6
  go_wp2_with (first
    | (go_at_call 8; refine hN.mono ?_; rintro e w1 ⟨rfl, h1, b1⟩)
    | (go_at_call 18; refine (hM _).mono ?_; rintro e w2 ⟨rfl, h2, b2⟩))
  have z1 := b1.size
  have al0 : Alike w.heap.size w w2 w.heap.size w1.heap.size 0 := ⟨⟨0, [], [], _, _, h1.chg (Chg.of_below b2 []) (by simp) (by simp), h2, netOk_nil, simL_nil, allLe_nil 0, nil_own _, nil_own _⟩,
    b1.trans (b2.mono z1), Nat.le_refl _, z1, Nat.le_trans z1 b2.size⟩
  clear hN hM h1 b1 h2 b2
  go_loopg [5] 300 (fun gn i wr => ∃ (j : Nat), j ≤ len ∧ j ≤ 300 ∧ i = .int .i64 j ∧ gn = 300 - j ∧ Alike w.heap.size w wr w.heap.size w1.heap.size (j * 262144))
  case atStart => exact ⟨0, Nat.zero_le _, Nat.zero_le _, rfl, rfl, by simpa using al0⟩
  case round =>
    obtain ⟨j, hj1, hj2, rfl, rfl, al⟩ := hrel
    by_cases h300 : j < 300
    · by_cases hlen : j < len
      · have hjA : j < A.length := by rw [HA.out]; exact hlen
        have hrj := (hrd.below al.bel) j hjA
        generalize A.getD j act0 = a at hrj
        obtain ⟨kd, cn, sd, nn, d⟩ := a
        dsimp only at hrj
        obtain ⟨b, off, rfl, hbB, r0, r1, r2, r3, r4, hd, hnn⟩ := hrj
        have hS := al.step (by omega) kd cn sd nn d hd hnn
        have AL := Lib.hid al
        clear al hjA hnn
        go_wp2_with (go_at_call 19; refine hS.mono ?_; rintro e w3 ⟨rfl, al3⟩)
        go_roundg (300 - (j + 1))
        case rel => exact ⟨j + 1, by omega, by omega, by go_num, rfl, by rw [show (j + 1) * 262144 = j * 262144 + 262144 by omega]; exact al3⟩
        case measure => omega
      · go_wp2_with (go_at_call 9; refine (hW _).mono ?_; rintro e w3 ⟨rfl, b3⟩)
        go_ret
        exact ⟨rfl, al.bel.trans (b3.mono al.sz)⟩
    · go_wp2_with (go_at_call 9; refine (hW _).mono ?_; rintro e w3 ⟨rfl, b3⟩)
      all_goals go_ret
      all_goals exact ⟨rfl, al.bel.trans (b3.mono al.sz)⟩

end Go.Proofs.Ytnbjbjpfleiogaa
