/- The law EpochBounds walked: for every plan and every list of calls it returns true and leaves all that was there as it was; conditions: none but that the list's length is a slice's. -/
import Derived.Test.YtmmaklddbkdenaaAtPure
import Derived.Deep.DeepCutAuto
import Derived.Deep.CutBlock
namespace Go.Proofs.Ytmmaklddbkdenaa
open Go.RowKit

set_option maxRecDepth 100000 in
set_option maxHeartbeats 4000000 in
theorem epochBounds_any (w : World) (n e g : Int) (ao : Option Addr) (len cap : Nat) (A : List (Int × Int)) (hA : A.length = len) (hl : len ≤ 9223372036854775807) (hrd : Rd2 w w.heap.size ao A) :
    Calls Try.prog 4 #[.agg #[.int .i64 n, .int .i64 e, .int .i64 g], .slice ao len cap] w fun e w' => e = .returned (.bool true) ∧ Below w.heap.size w w' := by
  have hW := fun W => lawWorks_any W
  cases hb : newBad n e g with
  | true =>
    have hN := fun W => new_bad n e g W hb
    clear hb hA
    go_enter Try.func4, Try.ntmps4
    go_wp2_with (first | (go_at_call 8; refine (hW _).mono ?_; rintro e w1 ⟨rfl, b1⟩; have x0 := (Blk.new w 23 #[.int .i64 n, .int .i64 e, .int .i64 g]).below b1 (by simp); have x1 := x0.at 0 rfl; have x2 := x0.at 1 rfl; have x3 := x0.at 2 rfl) | (go_at_call 9; refine (hN _).mono ?_; rintro e w2 ⟨rfl, rfl⟩))
    go_ret
    exact ⟨rfl, ((Below.refl _ _).alloc (Nat.le_refl _) _).trans (b1.mono (by simp))⟩
  | false =>
    have hN := fun W => new_good n e g W hb
    have gd0 := newK_good hb
    have HA := Lib.hid hA
    clear hb hA
    have hG := fun (W : World) c bw k h => global_any W c bw (.slice none 0 0) k h
    have hS := fun (W : World) c bw k h => snapshot_any W c bw (.slice none 0 0) k h
    go_enter Try.func4, Try.ntmps4
    go_wp2_with (first | (go_at_call 8; refine (hW _).mono ?_; rintro e w1 ⟨rfl, b1⟩; have x0 := (Blk.new w 23 #[.int .i64 n, .int .i64 e, .int .i64 g]).below b1 (by simp); have x1 := x0.at 0 rfl; have x2 := x0.at 1 rfl; have x3 := x0.at 2 rfl) | (go_at_call 9; refine (hN _).mono ?_; rintro e w2 ⟨rfl, h2, b2⟩) | (go_at_call 13; refine (hG _ _ _ (newK n e g) ⟨h2.1.alloc _, h2.2.alloc _⟩).mono ?_; rintro e w' ⟨rfl, rfl⟩) | (go_at_call 15; refine (hS _ _ _ (newK n e g) ⟨h2.1.alloc _, h2.2.alloc _⟩).mono ?_; rintro e w' ⟨rfl, rfl⟩))
    have z1 := b1.size
    have z2 := b2.size
    have z3 := h2.1.lt
    simp only [World.size_alloc] at z1
    have b12 : Below w.heap.size w w2 := (((Below.refl _ _).alloc (Nat.le_refl _) _).trans (b1.mono (by simp))).trans (b2.mono (by omega))
    clear hW hN b1 b2 x0 x1 x2 x3
    go_loopw [8, 9, 10] (fun gv sv i wr => ∃ (j : Nat) (k : Ck), j ≤ len ∧ j ≤ 300 ∧ i = .int .i64 j ∧ gv = .int .i64 k.glob ∧ sv = .int .i64 k.snap ∧ Good k ∧ IsClock wr (w1.heap.size + 1) w1.heap.size (.slice none 0 0) k ∧ Blk wr w2.heap.size 30 (atV k.ws) ∧ Below w.heap.size w wr) (fun _ _ i _ => 300 - (intOf i).toNat)
    case atStart =>
      refine ⟨0, newK n e g, Nat.zero_le _, Nat.zero_le _, rfl, rfl, rfl, gd0, ⟨h2.1.alloc _, h2.2.alloc _⟩, ?_, b12.alloc (by omega) _⟩
      rw [z16 n.toNat (by have := gd0.ok.len; simpa [newK] using this)]
      exact Blk.new _ _ _
    case round =>
      obtain ⟨j, k, hj1, hj2, rfl, rfl, rfl, hgd, hC, hB, hb⟩ := hrel
      by_cases h300 : j < 300
      · by_cases hlen : j < len
        · have hjA : j < A.length := by rw [HA.out]; exact hlen
          have hrj := (hrd.below hb) j hjA
          generalize (A.getD j (0, 0)).1 = kd at hrj
          generalize (A.getD j (0, 0)).2 = nm at hrj
          obtain ⟨b, off, rfl, hbB, r1, r2⟩ := hrj
          clear hjA
          have hbz := hb.size
          have hwz := hC.1.lt
          have hbw := hB.lt
          have hk := hgd.ok
          have hlt16 := hk.len
          have hBo := hB.alloc (.cells #[.int .i64 kd, .int .i64 nm] 32)
          have hLo := Blk.new wr 32 #[.int .i64 kd, .int .i64 nm]
          have hCo : IsClock (wr.alloc (.cells #[.int .i64 kd, .int .i64 nm] 32)) (w1.heap.size + 1) w1.heap.size (.slice none 0 0) k := ⟨hC.1.alloc _, hC.2.alloc _⟩
          have hbo : Below w.heap.size w (wr.alloc (.cells #[.int .i64 kd, .int .i64 nm] 32)) := hb.alloc (by omega) _
          have hAm := fun W => among_any kd 3 W (by decide) (by decide)
          go_upto_block 2 with (go_at_call 10; refine (hAm _).mono ?_; rintro e w' ⟨rfl, rfl⟩)
          go_cut [60] (fun _ wx => ∃ k' : Ck, Good k' ∧ k.glob ≤ k'.glob ∧ k.snap ≤ k'.snap ∧ IsClock wx (w1.heap.size + 1) w1.heap.size (.slice none 0 0) k' ∧ Blk wx w2.heap.size 30 (atV k'.ws) ∧ Below w.heap.size w wx)
          case first =>
            clear hAm r1 r2
            generalize kd % 3 = km
            by_cases hm0 : km = 0
            · subst hm0
              have hE := enter_any _ _ _ _ k hCo hk nm
              cases hbad : turnBad k.ws nm k.glob with
              | true =>
                rw [(turn_bad hbad).1, (turn_bad hbad).2, show enterN k nm = 0 by simp [enterN, hbad]] at hE
                clear hbad
                go_wp2_with (go_at_call 11; refine hE.mono ?_; rintro e w3 ⟨rfl, h3, c3⟩)
                go_meet
                exact ⟨k, hgd, Int.le_refl _, Int.le_refl _, h3, hBo.chg c3 (by simp; omega), below_chg hbo c3 (by simp; omega) (by simp; omega)⟩
              | false =>
                rw [(turn_good hbad).1, show enterN k nm = k.glob by simp [enterN, hbad]] at hE
                have hgd' := hgd.turn nm k.glob (.inr rfl)
                obtain ⟨m, rfl, hml⟩ := turnBad_false hbad
                have hws : (turnK k m k.glob).ws = k.ws.set m k.glob := by rw [(turn_good hbad).2]; rfl
                have HS := Lib.hid hws
                clear hbad hws
                go_wp2_with (go_at_call 11; refine hE.mono ?_; rintro e w3 ⟨rfl, h3, c3⟩; have hB3 := hBo.chg c3 (by simp; omega); have hL3 := hLo.chg c3 (by simp; omega); have q1 := hB3.at m (atV_get hlt16 (by omega)); have q2 := hB3.free m; have q3 := hL3.at 1 rfl)
                go_meet
                have hb3 := below_chg hbo c3 (by simp; omega) (by simp; omega)
                have hz3 := hB3.lt
                refine ⟨turnK k m k.glob, hgd', Int.le_refl _, Int.le_refl _, h3.set_far (by dsimp only; omega) (by dsimp only; omega) _, ?_, hb3.setCell (by dsimp only; omega) _⟩
                rw [HS.out, ← atV_set hml]
                exact hB3.set m _
            by_cases hm1 : km = 1
            · subst hm1
              have hE := leave_any _ _ _ _ k hCo hk nm
              cases hbad : turnBad k.ws nm 0 with
              | true =>
                rw [(turn_bad hbad).1, (turn_bad hbad).2] at hE
                clear hbad
                go_wp2_with (go_at_call 12; refine hE.mono ?_; rintro e w3 ⟨rfl, h3, c3⟩)
                go_meet
                exact ⟨k, hgd, Int.le_refl _, Int.le_refl _, h3, hBo.chg c3 (by simp; omega), below_chg hbo c3 (by simp; omega) (by simp; omega)⟩
              | false =>
                rw [(turn_good hbad).1] at hE
                have hgd' := hgd.turn nm 0 (.inl rfl)
                obtain ⟨m, rfl, hml⟩ := turnBad_false hbad
                have hws : (turnK k m 0).ws = k.ws.set m 0 := by rw [(turn_good hbad).2]; rfl
                have HS := Lib.hid hws
                clear hbad hws
                go_wp2_with (go_at_call 12; refine hE.mono ?_; rintro e w3 ⟨rfl, h3, c3⟩; have hB3 := hBo.chg c3 (by simp; omega); have hL3 := hLo.chg c3 (by simp; omega); have q1 := hB3.at m (atV_get hlt16 (by omega)); have q2 := hB3.free m; have q3 := hL3.at 1 rfl)
                go_meet
                have hb3 := below_chg hbo c3 (by simp; omega) (by simp; omega)
                have hz3 := hB3.lt
                refine ⟨turnK k m 0, hgd', Int.le_refl _, Int.le_refl _, h3.set_far (by dsimp only; omega) (by dsimp only; omega) _, ?_, hb3.setCell (by dsimp only; omega) _⟩
                rw [HS.out, ← atV_set hml]
                exact hB3.set m _
            · have hE := advance_any _ _ _ _ k hCo hk
              obtain ⟨a1, a2, a3⟩ := hgd.rise
              have hws := Lib.hid (adv_ws k)
              go_wp2_with (go_at_call 14; refine hE.mono ?_; rintro e w3 ⟨rfl, h3, c3⟩)
              go_meet
              exact ⟨adv k, a1, a2, a3, h3, by rw [hws.out]; exact hBo.chg c3 (by simp; omega), below_chg hbo c3 (by simp; omega) (by simp; omega)⟩
          case rest =>
            obtain ⟨k', hgd', hg', hs', hC', hB', hb'⟩ := hcut
            have hk' := hgd'.ok
            have hlt16' := hk'.len
            have hsg := hgd'.sg
            have e1 := hk'.g1
            have e2 := hk'.g2
            have e3 := hk'.s1
            have e4 := hgd.ok.g1
            have e5 := hgd.ok.s1
            have HS := Lib.hid (Try.size30 hlt16')
            go_wp2_with (first | (go_at_call 13; refine (hG _ _ _ k' hC').mono ?_; rintro e w' ⟨rfl, rfl⟩) | (go_at_call 15; refine (hS _ _ _ k' hC').mono ?_; rintro e w' ⟨rfl, rfl⟩) | (refine wpList_load_row rfl 30 _ rfl w2.heap.size rfl 30 _ (0, 0) _ hB' Try.underlying30 rfl HS.out ?_))
            go_loop [110] (fun iv => ∃ q : Nat, q ≤ 16 ∧ iv = .int .i64 q) (fun iv => 16 - (intOf iv).toNat)
            case atStart => exact ⟨0, by omega, rfl⟩
            case round =>
              obtain ⟨q, hq, rfl⟩ := hrel
              by_cases hq16 : q < 16
              · have hix := fun W => Try.index30 hlt16' hq16 W
                have hv := hgd'.w q
                rw [← atL_getD q] at hv
                generalize (atL k'.ws).getD q 0 = v at hix hv
                by_cases hp : 0 < v
                · obtain ⟨v1, v2, v3⟩ := hv hp
                  clear hv
                  go_wp2_with fail
                  go_round
                  case rel => exact ⟨q + 1, by omega, by go_num⟩
                  case measure => simp [intOf]; omega
                · clear hv
                  go_wp2_with fail
                  go_round
                  case rel => exact ⟨q + 1, by omega, by go_num⟩
                  case measure => simp [intOf]; omega
              · go_wp2_with fail
                go_roundw
                case rel => exact ⟨j + 1, k', by omega, by omega, by go_num, rfl, rfl, hgd', hC', hB', hb'⟩
                case measure => simp [intOf]; omega
        · go_wp2_with fail
          go_ret
          exact ⟨rfl, hb⟩
      · by_cases hlen : j < len
        · go_wp2_with fail
          go_ret
          exact ⟨rfl, hb⟩
        · go_wp2_with fail
          go_ret
          exact ⟨rfl, hb⟩

end Go.Proofs.Ytmmaklddbkdenaa
