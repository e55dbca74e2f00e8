/- The law EpochPlays walked: for every plan and every list of calls it returns true and leaves all that was there as it was; conditions: none but that the list's length is a slice's. -/
import Derived.Test.YtmmaklddbkdenaaStep2
import Derived.Deep.DeepCutAuto
import Derived.Deep.CutBlock
namespace Go.Proofs.Ytmmaklddbkdenaa
open Go.RowKit

/-- A new clock, wherever it lies. -/
def NewE (n e g : Int) (W : World) (x : Ending) (w' : World) : Prop :=
  ∃ c bw, x = .returned (.tuple #[.pointer (some ⟨c, 0, none⟩), .int .i64 0]) ∧ IsClock w' c bw (.slice none 0 0) (newK n e g) ∧ W.heap.size ≤ c ∧ W.heap.size ≤ bw ∧ Below W.heap.size W w'
theorem new_some (n e g : Int) (W : World) (hb : newBad n e g = false) : Calls Try.prog 9 #[.int .i64 n, .int .i64 e, .int .i64 g] W (NewE n e g W) :=
  (new_good n e g W hb).mono fun x w' ⟨h1, h2, h3⟩ => ⟨_, _, h1, h2, by omega, by omega, h3⟩
def RNewE (n e g : Int) (W : World) (x : Ending) (w' : World) : Prop :=
  ∃ r rw, x = .returned (.tuple #[.pointer (some ⟨r, 0, none⟩), .int .i64 0]) ∧ IsRef w' r rw (.slice none 0 0) (.slice none 0 0) (newK n e g) ∧ W.heap.size ≤ r ∧ W.heap.size ≤ rw ∧ Below W.heap.size W w'
theorem rnew_some (n e g : Int) (W : World) (hb : newBad n e g = false) : Calls Try.prog 18 #[.int .i64 n, .int .i64 e, .int .i64 g] W (RNewE n e g W) :=
  (rnew_good n e g W hb).mono fun x w' ⟨h1, h2, h3⟩ => ⟨_, _, h1, h2, by omega, by omega, h3⟩

set_option maxRecDepth 100000 in
set_option maxHeartbeats 4000000 in
theorem epochPlays_any (w : World) (n e g : Int) (ao : Option Addr) (len cap : Nat) (A : List (Int × Int)) (hA : A.length = len) (hl : len ≤ 9223372036854775807) (hrd : Rd2 w w.heap.size ao A) :
    Calls Try.prog 7 #[.agg #[.int .i64 n, .int .i64 e, .int .i64 g], .slice ao len cap] w fun e w' => e = .returned (.bool true) ∧ Below w.heap.size w w' := by
  have hW := fun W => lawWorks_any W
  have x0 := Blk.new w 23 #[.int .i64 n, .int .i64 e, .int .i64 g]
  have x1 := x0.at 0 rfl
  have x2 := x0.at 1 rfl
  have x3 := x0.at 2 rfl
  cases hb : newBad n e g with
  | true =>
    have hN := fun W => new_bad n e g W hb
    have hN2 := fun W => rnew_bad n e g W hb
    clear hb hA
    go_enter Try.func7, Try.ntmps7
    go_wp2_with (first | (go_at_call 9; refine (hN _).mono ?_; rintro e w2 ⟨rfl, rfl⟩) | (go_at_call 18; refine (hN2 _).mono ?_; rintro e w2 ⟨rfl, rfl⟩))
    go_loopg [9] 0 (fun gn iv wr => iv = .int .i64 0 ∧ gn = 0 ∧ wr = w.alloc (.cells #[.int .i64 n, .int .i64 e, .int .i64 g] 23))
    case atStart => exact ⟨rfl, rfl, rfl⟩
    case round =>
      obtain ⟨rfl, rfl, rfl⟩ := hrel
      go_wp2_with (go_at_call 8; refine (hW _).mono ?_; rintro e w1 ⟨rfl, b1⟩)
      go_ret
      exact ⟨rfl, ((Below.refl _ _).alloc (Nat.le_refl _) _).trans (b1.mono (by simp))⟩
  | false =>
    have hN := fun W => new_some n e g W hb
    have hN2 := fun W => rnew_some n e g W hb
    have gd0 := newK_ok hb
    have gp0 := newK_pos n e g
    have HA := Lib.hid hA
    clear hb hA
    go_enter Try.func7, Try.ntmps7
    go_wp2_with (first | (go_at_call 9; refine (hN _).mono ?_; rintro e w2 ⟨c, bw, rfl, h2, c1, c2, b2⟩; have y0 := x0.below b2 (by simp); have y1 := y0.at 0 rfl; have y2 := y0.at 1 rfl; have y3 := y0.at 2 rfl) | (go_at_call 18; refine (hN2 _).mono ?_; rintro e w3 ⟨r, rw, rfl, h3, c3, c4, b3⟩))
    have z2 := b2.size
    have z3 := b3.size
    have z4 := h2.1.lt
    have z6 := h2.2.lt
    have z5 := h3.1.lt
    simp only [World.size_alloc] at z2 c1 c2
    have b12 : Below w.heap.size w w3 := (((Below.refl _ _).alloc (Nat.le_refl _) _).trans (b2.mono (by simp))).trans (b3.mono (by omega))
    have H0 : Two w.heap.size w w3 c bw r rw (.slice none 0 0) (.slice none 0 0) (.slice none 0 0) (newK n e g) [] (newK n e g) [] :=
      ⟨⟨h2.1.below b3 z4, h2.2.below b3 z6⟩, World.ownsRow_nil _ _ _ _, h3, ⟨World.ownsRow_nil _ _ _ _, World.ownsRow_nil _ _ _ _, (fun g hg => by cases hg), (fun g hg => by cases hg)⟩, b12, by omega, by omega, by omega, by omega, by omega, (fun g hg => by cases hg), (fun g hg => by cases hg), (fun g hg => by cases hg)⟩
    clear hN hN2 x0 x1 x2 x3 y0 y1 y2 y3 h2 h3 b2 b3
    go_loopg [9] 400 (fun gn i wr => ∃ (j : Nat) (tv rt rv : Value) (k : Ck) (ts : List (Int × Int)), j ≤ len ∧ j ≤ 400 ∧ i = .int .i64 j ∧ gn = 400 - j ∧ Two w.heap.size w wr c bw r rw tv rt rv k ts k ts ∧ k.Ok ∧ Pos k ∧ ts.length ≤ 4096)
    case atStart => exact ⟨0, _, _, _, _, _, Nat.zero_le _, Nat.zero_le _, rfl, rfl, H0, gd0, gp0, by simp⟩
    case round =>
      obtain ⟨j, tv, rt, rv, k, ts, hj1, hj2, rfl, rfl, HT, hk, hp, hts⟩ := hrel
      by_cases h400 : j < 400
      · by_cases hlen : j < len
        · have hjA : j < A.length := by rw [HA.out]; exact hlen
          have hrj := (hrd.below HT.bel) j hjA
          generalize (A.getD j (0, 0)).1 = kd at hrj
          generalize (A.getD j (0, 0)).2 = nm at hrj
          obtain ⟨b, off, rfl, hbB, r1, r2⟩ := hrj
          have hS := step_any w.heap.size w wr.drew c bw r rw tv rt rv k ts HT.drew hk hp hts kd nm
          go_wp2_with fail
          go_region_with (first | (go_at_call 19; refine hS.mono ?_; rintro e w4 ⟨rfl, tv', rt', rv', k', ts', HT', hk', hp', hts'⟩; have q1 := HT'.R.1.at 2 rfl; have q2 := HT'.R.1.at 3 rfl) | (go_at_call 13; refine (global_any _ c bw tv' k' HT'.C).mono ?_; rintro e w' ⟨rfl, rfl⟩) | (go_at_call 15; refine (snapshot_any _ c bw tv' k' HT'.C).mono ?_; rintro e w' ⟨rfl, rfl⟩))
          all_goals
            go_wp2_with fail
            go_roundg (400 - (j + 1))
            case rel => exact ⟨j + 1, _, _, _, _, _, by omega, by omega, by go_num, rfl, HT', hk', hp', hts'⟩
            case measure => omega
        · obtain rfl : j = len := by omega
          go_wp2_with (go_at_call 8; refine (hW _).mono ?_; rintro e w5 ⟨rfl, b5⟩)
          go_ret
          exact ⟨rfl, HT.bel.trans (b5.mono HT.size)⟩
      · obtain rfl : j = 400 := by omega
        by_cases hlen : 400 < len
        · go_wp2_with (go_at_call 8; refine (hW _).mono ?_; rintro e w5 ⟨rfl, b5⟩)
          go_ret
          exact ⟨rfl, HT.bel.trans (b5.mono HT.size)⟩
        · go_wp2_with (go_at_call 8; refine (hW _).mono ?_; rintro e w5 ⟨rfl, b5⟩)
          go_ret
          exact ⟨rfl, HT.bel.trans (b5.mono HT.size)⟩

end Go.Proofs.Ytmmaklddbkdenaa
