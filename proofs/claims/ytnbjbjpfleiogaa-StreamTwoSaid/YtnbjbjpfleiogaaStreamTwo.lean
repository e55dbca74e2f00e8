/- The law StreamTwo walked: two nets by turns; for every list of acts it returns true and leaves all that was there as it was; conditions: texts are no longer than may come in. -/
import Derived.Test.YtnbjbjpfleiogaaStreamPlays
namespace Go.Proofs.Ytnbjbjpfleiogaa
open Go.RowKit

/-- Two nets of the call's own, alike, in these blocks. -/
structure Alk (B : Nat) (w : World) (nb rb K : Nat) (v u : Value) : Prop where
  x : ∃ n ps ys, IsNet w nb v ps n ∧ IsRef w rb u ys n ∧ NetOk ps n ∧ SimL ps ys ∧ AllLe ys K
  bn : B ≤ nb
  br : B ≤ rb
  bv : ∀ g, v.ownBlock = some g → B ≤ g
  bu : ∀ g, u.ownBlock = some g → B ≤ g
/-- The blocks of a pair. -/
def blocks (nb rb : Nat) (v u : Value) : List Nat := nb :: rb :: (v.ownBlock.toList ++ u.ownBlock.toList)
section
variable {B : Nat} {w w' : World} {nb rb K : Nat} {v u : Value} {l : List Nat}
theorem Alk.lt (h : Alk B w nb rb K v u) : ∀ q ∈ blocks nb rb v u, B ≤ q ∧ q < w.heap.size := fun q hq => by
  obtain ⟨n, ps, ys, i, r, _⟩ := h.x
  simp only [blocks, List.mem_cons, List.mem_append, Option.mem_toList] at hq
  rcases hq with rfl | rfl | hq | hq
  · exact ⟨h.bn, i.net.lt⟩
  · exact ⟨h.br, r.net.lt⟩
  · obtain ⟨cur, hb⟩ := own_blk i.row hq
    exact ⟨h.bv q hq, hb.lt⟩
  · obtain ⟨cur, hb⟩ := own_blk r.row hq
    exact ⟨h.bu q hq, hb.lt⟩
theorem Alk.chg (h : Alk B w nb rb K v u) (hc : Chg l w w') (hd : ∀ q ∈ blocks nb rb v u, q ∉ l) : Alk B w' nb rb K v u := by
  obtain ⟨n, ps, ys, i, r, ok, hS, hK⟩ := h.x
  have hin : ∀ g, v.ownBlock = some g → g ∈ blocks nb rb v u := fun g hg => by simp [blocks, hg]
  have hin' : ∀ g, u.ownBlock = some g → g ∈ blocks nb rb v u := fun g hg => by simp [blocks, hg]
  exact { h with x := ⟨n, ps, ys, i.chg hc (hd _ (by simp [blocks])) (fun g hg => hd _ (hin g hg)), r.chg hc (hd _ (by simp [blocks])) (fun g hg => hd _ (hin' g hg)), ok, hS, hK⟩ }
theorem Alk.mono {K' : Nat} (h : Alk B w nb rb K v u) (hK' : K ≤ K') : Alk B w nb rb K' v u := by
  obtain ⟨n, ps, ys, i, r, ok, hS, hK⟩ := h.x
  exact { h with x := ⟨n, ps, ys, i, r, ok, hS, hK.mono hK'⟩ }
end

/-- Two pairs, apart. -/
structure Pairs (B : Nat) (w0 w : World) (na ra nb rb K : Nat) : Prop where
  x : ∃ va ua vb ub, Alk B w na ra K va ua ∧ Alk B w nb rb K vb ub ∧ ∀ q ∈ blocks na ra va ua, q ∉ blocks nb rb vb ub
  bel : Below B w0 w
  sz : B ≤ w.heap.size
theorem Pairs.swap {B : Nat} {w0 w : World} {na ra nb rb K : Nat} (h : Pairs B w0 w na ra nb rb K) : Pairs B w0 w nb rb na ra K := by
  obtain ⟨va, ua, vb, ub, h1, h2, h3⟩ := h.x
  exact ⟨⟨vb, ub, va, ua, h2, h1, fun q hq hq' => h3 q hq' hq⟩, h.bel, h.sz⟩

theorem Pairs.step {B : Nat} {w0 w : World} {na ra nb rb K : Nat} (h : Pairs B w0 w na ra nb rb K) (hK2 : K ≤ 100000000) (kd cn sd nn : Int) (d : ByteArray) (hd : d.size ≤ 140737488355328) (hnn : -9223372036854775808 ≤ nn ∧ nn ≤ 9223372036854775807) :
    Calls Try.prog 19 #[.pointer (some ⟨na, 0, none⟩), .pointer (some ⟨ra, 0, none⟩), .agg #[.int .i64 kd, .int .i64 cn, .int .i64 sd, .int .i64 nn, .string d]] w fun e w' => e = .returned (.bool true) ∧ Pairs B w0 w' na ra nb rb (K + 262144) := by
  obtain ⟨va, ua, vb, ub, h1, h2, h3⟩ := h.x
  obtain ⟨n, ps, ys, i, r, ok, hS, hK⟩ := h1.x
  refine (step_any w na ra va ua ps ys n K i r ok hS hK hK2 kd cn sd nn d hd hnn).mono ?_
  rintro e w' ⟨he, n', ps', ys', v', u', i', r', ok', hS', hK', c, fv, fu⟩
  have c' : Chg (blocks na ra va ua) w w' := c
  refine ⟨he, ⟨v', u', vb, ub, ⟨⟨n', ps', ys', i', r', ok', hS', hK'⟩, h1.bn, h1.br, fun g hg => ?_, fun g hg => ?_⟩, (h2.chg c' (fun q hq hq' => h3 q hq' hq)).mono (by omega), fun q hq hq' => ?_⟩,
    below_chg h.bel c h.sz (fun q hq => (h1.lt q hq).1), Nat.le_trans h.sz c.size⟩
  · rcases fv g hg with h4 | h4
    · exact h1.bv g h4
    · exact Nat.le_trans h.sz h4
  · rcases fu g hg with h4 | h4
    · exact h1.bu g h4
    · exact Nat.le_trans h.sz h4
  · have hlt := (h2.lt q hq').2
    refine h3 q ?_ hq'
    simp only [blocks, List.mem_cons, List.mem_append, Option.mem_toList] at hq ⊢
    rcases hq with rfl | rfl | hq | hq
    · simp
    · simp
    · rcases fv q hq with h4 | h4
      · simp [h4]
      · omega
    · rcases fu q hq with h4 | h4
      · simp [h4]
      · omega

set_option maxRecDepth 100000 in
set_option maxHeartbeats 2000000 in
theorem streamTwo_any (w : World) (ao : Option Addr) (len cap : Nat) (A : List ActR) (hA : A.length = len) (hl : len ≤ 9223372036854775807) (hrd : RdA w w.heap.size ao A) :
    Calls Try.prog 7 #[.slice ao len cap] w fun e w' => e = .returned (.bool true) ∧ Below w.heap.size w w' := by
  have hN := fun W => new_any W
  have hM := fun W => rnew_any W
  have hW := fun W => lawWorks_any W
  have HA := Lib.hid hA
  clear hA
  go_enter Try.func7, Try.ntmps7
  go_upto_region 2 with (first
    | (go_at_call 18; first
        | (refine (hM w3).mono ?_; rintro e w4 ⟨rfl, h4, b4⟩)
        | (refine (hM w2).mono ?_; rintro e w3 ⟨rfl, h3, b3⟩))
    | (go_at_call 8; first
        | (refine (hN w1).mono ?_; rintro e w2 ⟨rfl, h2, b2⟩)
        | (refine (hN w).mono ?_; rintro e w1 ⟨rfl, h1, b1⟩)))
  have z1 := b1.size
  have z2 := b2.size
  have z3 := b3.size
  have z4 := b4.size
  have q1 := h1.net.lt
  have q2 := h2.net.lt
  have q3 := h3.net.lt
  have q4 := h4.net.lt
  have e12 := b1.trans (b2.mono z1)
  have e13 := e12.trans (b3.mono e12.size)
  have e14 := e13.trans (b4.mono e13.size)
  have g1 := ((h1.chg (Chg.of_below b2 []) (by simp) (by simp)).chg (Chg.of_below b3 []) (by simp) (by simp)).chg (Chg.of_below b4 []) (by simp) (by simp)
  have g2 := (h2.chg (Chg.of_below b3 []) (by simp) (by simp)).chg (Chg.of_below b4 []) (by simp) (by simp)
  have g3 := h3.chg (Chg.of_below b4 []) (by simp) (by simp)
  have al0 : Pairs w.heap.size w w4 w.heap.size w2.heap.size w1.heap.size w3.heap.size 0 :=
    ⟨⟨.slice none 0 0, .slice none 0 0, .slice none 0 0, .slice none 0 0, ⟨⟨0, [], [], g1, g3, netOk_nil, simL_nil, allLe_nil 0⟩, Nat.le_refl _, by omega, nil_own _, nil_own _⟩, ⟨⟨0, [], [], g2, h4, netOk_nil, simL_nil, allLe_nil 0⟩, by omega, by omega, nil_own _, nil_own _⟩, fun q hq hq' => by
      simp only [blocks, Value.ownBlock, Option.toList, List.append_nil, List.mem_cons, List.not_mem_nil, or_false] at hq hq'
      omega⟩, e14, by omega⟩
  clear hN hM h1 h2 h3 h4 g1 g2 g3 e12 e13 e14 b1 b2 b3 b4
  go_wp2_with fail
  trace_state
  go_loopg [7] 300 (fun gn i wr => ∃ (j : Nat), j ≤ len ∧ j ≤ 300 ∧ i = .int .i64 j ∧ gn = 300 - j ∧ Pairs w.heap.size w wr w.heap.size w2.heap.size w1.heap.size w3.heap.size (j * 262144))
  case atStart => exact ⟨0, Nat.zero_le _, Nat.zero_le _, rfl, rfl, by simpa using al0⟩
  case round =>
    obtain ⟨j, hj1, hj2, rfl, rfl, al⟩ := hrel
    by_cases h300 : j < 300
    · by_cases hlen : j < len
      · have hjA : j < A.length := by rw [HA.out]; exact hlen
        have hrj := (hrd.below al.bel) j hjA
        generalize A.getD j act0 = a at hrj
        obtain ⟨kd, cn, sd, nn, d⟩ := a
        dsimp only at hrj
        obtain ⟨b, off, rfl, hbB, r0, r1, r2, r3, r4, hd, hnn⟩ := hrj
        have hS := al.step (by omega) kd cn sd nn d hd hnn
        have hS2 := al.swap.step (by omega) kd cn sd nn d hd hnn
        have AL := Lib.hid al
        clear al hjA hnn
        have hj : (j : Int) % 2 = 0 ∨ (j : Int) % 2 = 1 := by omega
        have htm : (j : Int).tmod 2 = (j : Int) % 2 := Int.tmod_eq_emod_of_nonneg (by omega)
        rcases hj with hj | hj
        · rw [hj] at htm
          go_wp2_with (go_at_call 19; refine hS.mono ?_; rintro e w5 ⟨rfl, al3⟩)
          go_roundg (300 - (j + 1))
          case rel => exact ⟨j + 1, by omega, by omega, by go_num, rfl, by rw [show (j + 1) * 262144 = j * 262144 + 262144 by omega]; exact al3⟩
          case measure => omega
        · rw [hj] at htm
          go_wp2_with (go_at_call 19; refine hS2.mono ?_; rintro e w5 ⟨rfl, al3⟩)
          go_roundg (300 - (j + 1))
          case rel => exact ⟨j + 1, by omega, by omega, by go_num, rfl, by rw [show (j + 1) * 262144 = j * 262144 + 262144 by omega]; exact al3.swap⟩
          case measure => omega
      · go_wp2_with (go_at_call 9; refine (hW _).mono ?_; rintro e w5 ⟨rfl, b5⟩)
        go_ret
        exact ⟨rfl, al.bel.trans (b5.mono al.sz)⟩
    · go_wp2_with (go_at_call 9; refine (hW _).mono ?_; rintro e w5 ⟨rfl, b5⟩)
      all_goals go_ret
      all_goals exact ⟨rfl, al.bel.trans (b5.mono al.sz)⟩

end Go.Proofs.Ytnbjbjpfleiogaa
