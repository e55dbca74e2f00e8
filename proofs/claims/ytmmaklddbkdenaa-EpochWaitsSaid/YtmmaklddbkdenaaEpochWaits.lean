/- The law EpochWaits walked: for every plan and every list of calls it returns true and leaves all that was there as it was; conditions: none but that the list's length is a slice's. -/
import Derived.Test.YtmmaklddbkdenaaAmong
import Derived.Deep.DeepCutAuto
import Derived.Deep.CutBlock
namespace Go.Proofs.Ytmmaklddbkdenaa
open Go.RowKit

def atL (ws : List Int) : List Int := ws ++ List.replicate (16 - ws.length) 0
def atV (ws : List Int) : Array Value := ((atL ws).map (Value.int .i64)).toArray

theorem z16 (n : Nat) (h : n ≤ 16) : (#[.int .i64 0, .int .i64 0, .int .i64 0, .int .i64 0, .int .i64 0, .int .i64 0, .int .i64 0, .int .i64 0, .int .i64 0, .int .i64 0, .int .i64 0, .int .i64 0, .int .i64 0, .int .i64 0, .int .i64 0, .int .i64 0] : Array Value) = atV (List.replicate n 0) := by
  have : List.replicate n (0 : Int) ++ List.replicate (16 - n) 0 = List.replicate 16 0 := by rw [List.replicate_append_replicate]; congr 1; omega
  simp [atV, atL, this]
theorem atL_len {ws : List Int} (h : ws.length ≤ 16) : (atL ws).length = 16 := by simp [atL]; omega
theorem worksP_atL (ws : List Int) (p : Int → Bool) : worksP (atL ws) p = worksP ws p := by
  simp [worksP, atL, List.any_append]
theorem atV_get {ws : List Int} (h : ws.length ≤ 16) {j : Nat} (hj : j < 16) : (atV ws)[j]? = some (.int .i64 ((atL ws).getD j 0)) := getElem?_map_int _ _ (by rw [atL_len h]; exact hj)
theorem atV_set {ws : List Int} {j : Nat} (hj : j < ws.length) (v : Int) : (atV ws).setIfInBounds j (.int .i64 v) = atV (ws.set j v) := by
  unfold atV
  rw [toArray_set_int]
  simp [atL, List.set_append_left, hj]
theorem atV_size {ws : List Int} (h : ws.length ≤ 16) : (atV ws).size = 16 := by simp [atV, atL_len h]
theorem turnBad_false {ws : List Int} {i ep : Int} (h : turnBad ws i ep = false) : ∃ m : Nat, i = m ∧ m < ws.length := by
  simp only [turnBad, Bool.or_eq_false_iff, decide_eq_false_iff_not] at h
  exact ⟨i.toNat, by omega, by omega⟩

theorem adv_glob_no {k : Ck} (h : advOk k = false) : (adv k).glob = k.glob := by rw [adv_no h]
theorem adv_glob_yes {k : Ck} (h : advOk k = true) : (adv k).glob = k.glob + 1 := by simp [adv, h]
theorem adv_ws (k : Ck) : (adv k).ws = k.ws := by unfold adv; split <;> rfl
theorem worksP_step (l : List Int) (p : Int → Bool) (q : Nat) (hq : q < l.length) : worksP (l.take (q + 1)) p = (worksP (l.take q) p || (decide (0 < l.getD q 0) && p (l.getD q 0))) := by
  unfold worksP
  rw [List.take_succ_eq_append_getElem hq, List.any_append]
  simp [List.getD, hq]
theorem worksP_all {ws : List Int} (h : ws.length ≤ 16) (p : Int → Bool) : worksP ((atL ws).take 16) p = worksP ws p := by
  rw [List.take_of_length_le (by rw [atL_len h]; omega), worksP_atL]
theorem Try.size30 {ws : List Int} (h : ws.length ≤ 16) : (Try.prog.info? 30).map (·.size) = some (atV ws).size := by rw [atV_size h]; kernel_rfl
theorem Try.index30 {ws : List Int} (h : ws.length ≤ 16) {q : Nat} (hq : q < 16) (W : World) : (Instr.index 30 (.agg (atV ws)) (.int .i64 (q : Int))).run Try.prog W = .ok (.int .i64 ((atL ws).getD q 0)) W := by
  obtain ⟨i0, hi, hz0, hz1, hz2⟩ := info_parts Try.info3
  exact run_index_arr 30 3 Try.underlying30 Try.underlying3 rfl hi hz1 hq (atV_get h hq) W

theorem atL_getD {ws : List Int} (j : Nat) : (atL ws).getD j 0 = ws.getD j 0 := by
  unfold atL
  by_cases h : j < ws.length
  · simp [List.getD, List.getElem?_append_left h]
  · by_cases h2 : j - ws.length < 16 - ws.length
    · simp [List.getD, List.getElem?_append_right (Nat.le_of_not_lt h), h2, Nat.le_of_not_lt h]
    · simp [List.getD, List.getElem?_append_right (Nat.le_of_not_lt h), h2, Nat.le_of_not_lt h]
theorem worksP_none {ws : List Int} (h : ∀ i, i < ws.length → ws.getD i 0 ≤ 0) (p : Int → Bool) : worksP ws p = false := by
  unfold worksP
  rw [List.any_eq_false]
  intro x hx
  obtain ⟨i, hi, rfl⟩ := List.mem_iff_getElem.1 hx
  have := h i hi
  simp [List.getD, hi] at this
  simp; omega

set_option maxRecDepth 100000 in
set_option maxHeartbeats 4000000 in
theorem epochWaits_any (w : World) (n e g : Int) (ao : Option Addr) (len cap : Nat) (A : List (Int × Int)) (hA : A.length = len) (hl : len ≤ 9223372036854775807) (hrd : Rd2 w w.heap.size ao A) :
    Calls Try.prog 3 #[.agg #[.int .i64 n, .int .i64 e, .int .i64 g], .slice ao len cap] w fun e w' => e = .returned (.bool true) ∧ Below w.heap.size w w' := by
  have hW := fun W => lawWorks_any W
  cases hb : newBad n e g with
  | true =>
    have hN := fun W => new_bad n e g W hb
    have HA := Lib.hid hA
    clear hb hA
    go_enter Try.func3, Try.ntmps3
    go_wp2_with (first | (go_at_call 8; refine (hW _).mono ?_; rintro e w1 ⟨rfl, b1⟩; have x0 := (Blk.new w 23 #[.int .i64 n, .int .i64 e, .int .i64 g]).below b1 (by simp); have x1 := x0.at 0 rfl; have x2 := x0.at 1 rfl; have x3 := x0.at 2 rfl) | (go_at_call 9; refine (hN _).mono ?_; rintro e w2 ⟨rfl, rfl⟩))
    go_ret
    exact ⟨rfl, ((Below.refl _ _).alloc (Nat.le_refl _) _).trans (b1.mono (by simp))⟩
  | false =>
    have hN := fun W => new_good n e g W hb
    have ok0 := newK_ok hb
    have HA := Lib.hid hA
    clear hb hA
    go_enter Try.func3, Try.ntmps3
    go_upto_block 0 with (first | (go_at_call 8; refine (hW _).mono ?_; rintro e w1 ⟨rfl, b1⟩; have x0 := (Blk.new w 23 #[.int .i64 n, .int .i64 e, .int .i64 g]).below b1 (by simp); have x1 := x0.at 0 rfl; have x2 := x0.at 1 rfl; have x3 := x0.at 2 rfl) | (go_at_call 9; refine (hN _).mono ?_; rintro e w2 ⟨rfl, h2, b2⟩))
    have z1 := b1.size
    have z2 := b2.size
    have z3 := h2.1.lt
    simp only [World.size_alloc] at z1
    have b12 : Below w.heap.size w w2 := (((Below.refl _ _).alloc (Nat.le_refl _) _).trans (b1.mono (by simp))).trans (b2.mono (by omega))
    clear hW hN b1 b2 x0 x1 x2 x3
    go_cut [] (fun wx => ∃ k : Ck, k.Ok ∧ IsClock wx (w1.heap.size + 1) w1.heap.size (.slice none 0 0) k ∧ Blk wx w2.heap.size 30 (atV k.ws) ∧ Below w.heap.size w wx)
    case first =>
      go_wp2_with fail
      go_loopw [8] (fun i wr => ∃ (j : Nat) (k : Ck), j ≤ len ∧ j ≤ 300 ∧ i = .int .i64 j ∧ k.Ok ∧ IsClock wr (w1.heap.size + 1) w1.heap.size (.slice none 0 0) k ∧ Blk wr w2.heap.size 30 (atV k.ws) ∧ Below w.heap.size w wr) (fun i _ => 300 - (intOf i).toNat)
      case atStart =>
        refine ⟨0, newK n e g, Nat.zero_le _, Nat.zero_le _, rfl, ok0, ⟨h2.1.alloc _, h2.2.alloc _⟩, ?_, b12.alloc (by omega) _⟩
        rw [z16 n.toNat (by have := ok0.len; simpa [newK] using this)]
        exact Blk.new _ _ _
      case round =>
        obtain ⟨j, k, hj1, hj2, rfl, hk, hC, hB, hb⟩ := hrel
        by_cases h300 : j < 300
        · by_cases hlen : j < len
          · have hjA : j < A.length := by rw [HA.out]; exact hlen
            have hrj := (hrd.below hb) j hjA
            generalize (A.getD j (0, 0)).1 = kd at hrj
            generalize (A.getD j (0, 0)).2 = nm at hrj
            obtain ⟨b, off, rfl, hbB, r1, r2⟩ := hrj
            clear hjA
            have hbz := hb.size
            have hwz := hC.1.lt
            have hbw := hB.lt
            have hlt16 := hk.len
            have hBo := hB.alloc (.cells #[.int .i64 kd, .int .i64 nm] 32)
            have hLo := Blk.new wr 32 #[.int .i64 kd, .int .i64 nm]
            have hCo : IsClock (wr.alloc (.cells #[.int .i64 kd, .int .i64 nm] 32)) (w1.heap.size + 1) w1.heap.size (.slice none 0 0) k := ⟨hC.1.alloc _, hC.2.alloc _⟩
            have hbo : Below w.heap.size w (wr.alloc (.cells #[.int .i64 kd, .int .i64 nm] 32)) := hb.alloc (by omega) _
            have hmod : kd % 3 = 0 ∨ kd % 3 = 1 ∨ kd % 3 = 2 := by omega
            rcases hmod with hm | hm | hm
            · have hAm : ∀ W : World, Calls Try.prog 10 #[.int .i64 kd, .int .i64 3] W fun e w' => e = .returned (.int .i64 0) ∧ W = w' := fun W => by
                have := among_any kd 3 W (by decide) (by decide)
                rwa [hm] at this
              clear hm
              have hE := enter_any _ _ _ _ k hCo hk nm
              cases hbad : turnBad k.ws nm k.glob with
              | true =>
                rw [(turn_bad hbad).1, (turn_bad hbad).2, show enterN k nm = 0 by simp [enterN, hbad]] at hE
                clear hbad
                go_wp2_with (first | (go_at_call 10; refine (hAm _).mono ?_; rintro e w' ⟨rfl, rfl⟩) | (go_at_call 11; refine hE.mono ?_; rintro e w3 ⟨rfl, h3, c3⟩))
                go_roundw
                case rel =>
                  have hB3 := hBo.chg c3 (by simp; omega)
                  have hb3 := below_chg hbo c3 (by simp; omega) (by simp; omega)
                  exact ⟨j + 1, k, by omega, by omega, by go_num, hk, h3, hB3, hb3⟩
                case measure => simp [intOf]; omega
              | false =>
                rw [(turn_good hbad).1, show enterN k nm = k.glob by simp [enterN, hbad]] at hE
                have hk' := turnK_ok hk nm k.glob
                obtain ⟨m, rfl, hml⟩ := turnBad_false hbad
                have hws : (turnK k m k.glob).ws = k.ws.set m k.glob := by rw [(turn_good hbad).2]; rfl
                have HS := Lib.hid hws
                clear hbad hws
                go_wp2_with (first | (go_at_call 10; refine (hAm _).mono ?_; rintro e w' ⟨rfl, rfl⟩) | (go_at_call 11; refine hE.mono ?_; rintro e w3 ⟨rfl, h3, c3⟩; have hB3 := hBo.chg c3 (by simp; omega); have hL3 := hLo.chg c3 (by simp; omega); have q1 := hB3.at m (atV_get hlt16 (by omega)); have q2 := hB3.free m; have q3 := hL3.at 1 rfl))
                go_roundw
                case rel =>
                  have hb3 := below_chg hbo c3 (by simp; omega) (by simp; omega)
                  have hz3 := hB3.lt
                  refine ⟨j + 1, turnK k m k.glob, by omega, by omega, by go_num, hk', h3.set_far (by dsimp only; omega) (by dsimp only; omega) _, ?_, hb3.setCell (by dsimp only; omega) _⟩
                  rw [HS.out, ← atV_set hml]
                  exact hB3.set m _
                case measure => simp [intOf]; omega
            · have hAm : ∀ W : World, Calls Try.prog 10 #[.int .i64 kd, .int .i64 3] W fun e w' => e = .returned (.int .i64 1) ∧ W = w' := fun W => by
                have := among_any kd 3 W (by decide) (by decide)
                rwa [hm] at this
              clear hm
              have hE := leave_any _ _ _ _ k hCo hk nm
              cases hbad : turnBad k.ws nm 0 with
              | true =>
                rw [(turn_bad hbad).1, (turn_bad hbad).2] at hE
                clear hbad
                go_wp2_with (first | (go_at_call 10; refine (hAm _).mono ?_; rintro e w' ⟨rfl, rfl⟩) | (go_at_call 12; refine hE.mono ?_; rintro e w3 ⟨rfl, h3, c3⟩))
                go_roundw
                case rel =>
                  have hB3 := hBo.chg c3 (by simp; omega)
                  have hb3 := below_chg hbo c3 (by simp; omega) (by simp; omega)
                  exact ⟨j + 1, k, by omega, by omega, by go_num, hk, h3, hB3, hb3⟩
                case measure => simp [intOf]; omega
              | false =>
                rw [(turn_good hbad).1] at hE
                have hk' := turnK_ok hk nm 0
                obtain ⟨m, rfl, hml⟩ := turnBad_false hbad
                have hws : (turnK k m 0).ws = k.ws.set m 0 := by rw [(turn_good hbad).2]; rfl
                have HS := Lib.hid hws
                clear hbad hws
                go_wp2_with (first | (go_at_call 10; refine (hAm _).mono ?_; rintro e w' ⟨rfl, rfl⟩) | (go_at_call 12; refine hE.mono ?_; rintro e w3 ⟨rfl, h3, c3⟩; have hB3 := hBo.chg c3 (by simp; omega); have hL3 := hLo.chg c3 (by simp; omega); have q1 := hB3.at m (atV_get hlt16 (by omega)); have q2 := hB3.free m; have q3 := hL3.at 1 rfl))
                go_roundw
                case rel =>
                  have hb3 := below_chg hbo c3 (by simp; omega) (by simp; omega)
                  have hz3 := hB3.lt
                  refine ⟨j + 1, turnK k m 0, by omega, by omega, by go_num, hk', h3.set_far (by dsimp only; omega) (by dsimp only; omega) _, ?_, hb3.setCell (by dsimp only; omega) _⟩
                  rw [HS.out, ← atV_set hml]
                  exact hB3.set m _
                case measure => simp [intOf]; omega
            · have hAm : ∀ W : World, Calls Try.prog 10 #[.int .i64 kd, .int .i64 3] W fun e w' => e = .returned (.int .i64 2) ∧ W = w' := fun W => by
                have := among_any kd 3 W (by decide) (by decide)
                rwa [hm] at this
              clear hm
              have hE := advance_any _ _ _ _ k hCo hk
              have hG := fun (W : World) h => global_any W (w1.heap.size + 1) w1.heap.size (.slice none 0 0) k h
              have HS := Lib.hid (Try.size30 hlt16)
              go_wp2_with (first | (go_at_call 10; refine (hAm _).mono ?_; rintro e w' ⟨rfl, rfl⟩) | (refine wpList_load_row rfl 30 _ rfl w2.heap.size rfl 30 _ (0, 0) _ hBo Try.underlying30 rfl HS.out ?_))
              go_loop [12, 64] (fun bv iv => ∃ q : Nat, q ≤ 16 ∧ iv = .int .i64 q ∧ bv = .bool (worksP ((atL k.ws).take q) fun n => decide (n < k.glob))) (fun _ iv => 16 - (intOf iv).toNat)
              case atStart => exact ⟨0, by omega, rfl, rfl⟩
              case round =>
                obtain ⟨q, hq, rfl, rfl⟩ := hrel
                by_cases hq16 : q < 16
                · have hix := fun W => Try.index30 hlt16 hq16 W
                  have hst := worksP_step (atL k.ws) (fun n => decide (n < k.glob)) q (by rw [atL_len hlt16]; exact hq16)
                  generalize (atL k.ws).getD q 0 = v at hix hst
                  generalize worksP ((atL k.ws).take q) (fun n => decide (n < k.glob)) = B at hst
                  cases B with
                  | true =>
                    rw [Bool.true_or] at hst
                    have HT := Lib.hid hst
                    clear hst
                    go_wp2_with (go_at_call 13; refine (hG _ hCo).mono ?_; rintro e w' ⟨rfl, rfl⟩)
                    go_round
                    case rel => exact ⟨q + 1, by omega, by go_num, by rw [HT.out]⟩
                    case measure => simp [intOf]; omega
                  | false =>
                    rw [Bool.false_or] at hst
                    by_cases hv : 0 < v
                    · rw [decide_eq_true hv, Bool.true_and] at hst
                      have HT := Lib.hid hst
                      clear hst
                      go_wp2_with (go_at_call 13; refine (hG _ hCo).mono ?_; rintro e w' ⟨rfl, rfl⟩)
                      go_round
                      case rel => exact ⟨q + 1, by omega, by go_num, by rw [HT.out]⟩
                      case measure => simp [intOf]; omega
                    · rw [decide_eq_false hv, Bool.false_and] at hst
                      have HT := Lib.hid hst
                      clear hst
                      go_wp2_with (go_at_call 13; refine (hG _ hCo).mono ?_; rintro e w' ⟨rfl, rfl⟩)
                      go_round
                      case rel => exact ⟨q + 1, by omega, by go_num, by rw [HT.out]⟩
                      case measure => simp [intOf]; omega
                · obtain rfl : q = 16 := by omega
                  rw [worksP_all hlt16, show worksP k.ws (fun n => decide (n < k.glob)) = advBehind k from rfl]
                  have hk1 := hk.g1
                  have hk2 := hk.g2
                  have hok := adv_ok hk
                  have hgo := adv_glob_no (k := k)
                  have hgy := adv_glob_yes (k := k)
                  have hws := Lib.hid (adv_ws k)
                  have hG' := fun (W : World) h => global_any W (w1.heap.size + 1) w1.heap.size (.slice none 0 0) (adv k) h
                  by_cases hmax : 2147483648 ≤ k.glob
                  · have h1 : advOk k = false := by simp [advOk, hmax]
                    have h2 : advE k = 1 := by simp [advE, hmax]
                    rw [h1, h2] at hE
                    clear h1 h2 hgo hgy
                    generalize advBehind k = bh
                    go_wp2_with (first | (go_at_call 13; refine (hG _ hCo).mono ?_; rintro e w' ⟨rfl, rfl⟩) | (go_at_call 14; refine hE.mono ?_; rintro e w3 ⟨rfl, h3, c3⟩))
                    go_roundw
                    case rel =>
                      have hB3 := hBo.chg c3 (by simp; omega)
                      have hb3 := below_chg hbo c3 (by simp; omega) (by simp; omega)
                      exact ⟨j + 1, adv k, by omega, by omega, by go_num, hok, h3, by rw [hws.out]; exact hB3, hb3⟩
                    case measure => simp [intOf]; omega
                  · have h2 : advE k = 0 := by simp [advE, hmax]
                    cases hbh : advBehind k with
                    | true =>
                      have h1 : advOk k = false := by simp [advOk, hbh]
                      rw [h1, h2] at hE
                      simp only [hgo h1] at hG'
                      clear h1 h2 hgo hgy hbh
                      go_wp2_with (first | (go_at_call 13; refine (hG _ hCo).mono ?_; rintro e w' ⟨rfl, rfl⟩) | (go_at_call 13; refine (hG' _ h3).mono ?_; rintro e w' ⟨rfl, rfl⟩) | (go_at_call 14; refine hE.mono ?_; rintro e w3 ⟨rfl, h3, c3⟩))
                      go_roundw
                      case rel =>
                        have hB3 := hBo.chg c3 (by simp; omega)
                        have hb3 := below_chg hbo c3 (by simp; omega) (by simp; omega)
                        exact ⟨j + 1, adv k, by omega, by omega, by go_num, hok, h3, by rw [hws.out]; exact hB3, hb3⟩
                      case measure => simp [intOf]; omega
                    | false =>
                      have h1 : advOk k = true := by simp [advOk, hbh, hmax]
                      rw [h1, h2] at hE
                      simp only [hgy h1] at hG'
                      clear h1 h2 hgo hgy hbh
                      go_wp2_with (first | (go_at_call 13; refine (hG _ hCo).mono ?_; rintro e w' ⟨rfl, rfl⟩) | (go_at_call 13; refine (hG' _ h3).mono ?_; rintro e w' ⟨rfl, rfl⟩) | (go_at_call 14; refine hE.mono ?_; rintro e w3 ⟨rfl, h3, c3⟩))
                      go_roundw
                      case rel =>
                        have hB3 := hBo.chg c3 (by simp; omega)
                        have hb3 := below_chg hbo c3 (by simp; omega) (by simp; omega)
                        exact ⟨j + 1, adv k, by omega, by omega, by go_num, hok, h3, by rw [hws.out]; exact hB3, hb3⟩
                      case measure => simp [intOf]; omega
          · go_wp2_with fail
            go_meet
            exact ⟨k, hk, hC, hB, hb⟩
        · by_cases hlen : j < len
          · go_wp2_with fail
            go_meet
            exact ⟨k, hk, hC, hB, hb⟩
          · go_wp2_with fail
            go_meet
            exact ⟨k, hk, hC, hB, hb⟩
    case rest =>
      obtain ⟨k, hk, hC, hB, hb⟩ := hcut
      have hlt16 := hk.len
      have HS := Lib.hid (Try.size30 hlt16)
      have hbz := hb.size
      have hwz := hC.1.lt
      go_wp2_with (refine wpList_load_row rfl 30 _ rfl w2.heap.size rfl 30 _ (0, 0) _ hB Try.underlying30 rfl HS.out ?_)
      go_loopw [135] (fun iv wr => ∃ (q : Nat) (k' : Ck), q ≤ 16 ∧ iv = .int .i64 q ∧ k'.Ok ∧ IsClock wr (w1.heap.size + 1) w1.heap.size (.slice none 0 0) k' ∧ Below w.heap.size w wr ∧ k'.ws.length = k.ws.length ∧
        (∀ i, i < q → k'.ws.getD i 0 ≤ 0) ∧ ∀ i, q ≤ i → k'.ws.getD i 0 = k.ws.getD i 0) (fun iv _ => 16 - (intOf iv).toNat)
      case atStart => exact ⟨0, k, by omega, rfl, hk, hC, hb, rfl, fun i hi => by omega, fun _ _ => rfl⟩
      case round =>
        obtain ⟨q, k', hq, rfl, hk', hC', hb', hlen, hlo, hhi⟩ := hrel
        have HL := Lib.hid hlen
        have HO := Lib.hid hlo
        have HH := Lib.hid hhi
        clear hlen hlo hhi
        have hbz' := hb'.size
        have hwz' := hC'.1.lt
        by_cases hq16 : q < 16
        · have hix := fun W => Try.index30 hlt16 hq16 W
          have hv := atL_getD (ws := k.ws) q
          generalize (atL k.ws).getD q 0 = v at hix hv
          have hq2 := HH.out q (Nat.le_refl _)
          by_cases hpos : 0 < v
          · have hql : q < k'.ws.length := by
              rcases Nat.lt_or_ge q k'.ws.length with h | h
              · exact h
              · have hz : k'.ws.getD q 0 = 0 := by simp [List.getD, List.getElem?_eq_none h]
                omega
            have hbad : turnBad k'.ws q 0 = false := by
              have a1 : ¬ (q : Int) < 0 := by omega
              have a2 : ¬ (k'.ws.length : Int) ≤ q := by omega
              have a3 : decide (0 < k'.ws.getD q 0) = true := decide_eq_true (by omega)
              simp only [turnBad, Int.toNat_natCast, a1, a2, a3]; decide
            have hE := leave_any _ _ _ _ k' hC' hk' q
            rw [(turn_good hbad).1] at hE
            have hk2 := turnK_ok hk' q 0
            have hws : (turnK k' q 0).ws = k'.ws.set q 0 := by rw [(turn_good hbad).2]; rfl
            have HW := Lib.hid hws
            have HV := Lib.hid hv
            have HQ := Lib.hid hq2
            clear hbad hws hv hq2
            go_wp2_with (go_at_call 12; refine hE.mono ?_; rintro e w3 ⟨rfl, h3, c3⟩)
            go_roundw
            case rel =>
              have hb3 := below_chg hb' c3 (by omega) (by simp; omega)
              refine ⟨q + 1, turnK k' q 0, by omega, by go_num, hk2, h3, hb3, by rw [HW.out, List.length_set]; exact HL.out, fun i hi => ?_, fun i hi => ?_⟩
              · rw [HW.out]
                by_cases e : i = q
                · subst e; simp [List.getD, hql]
                · have := HO.out i (by omega)
                  simpa [List.getD, List.getElem?_set, show q ≠ i by omega] using this
              · rw [HW.out]
                have := HH.out i (by omega)
                simpa [List.getD, List.getElem?_set, show q ≠ i by omega] using this
            case measure => simp [intOf]; omega
          · have HV := Lib.hid hv
            have HQ := Lib.hid hq2
            clear hv hq2
            go_wp2_with fail
            go_roundw
            case rel =>
              refine ⟨q + 1, k', by omega, by go_num, hk', hC', hb', HL.out, fun i hi => ?_, fun i hi => HH.out i (by omega)⟩
              by_cases e : i = q
              · subst e; have := HV.out; have := HQ.out; omega
              · exact HO.out i (by omega)
            case measure => simp [intOf]; omega
        · have hno : advBehind k' = false := worksP_none (fun i hi => HO.out i (by have := hk'.len; omega)) _
          have hE := advance_any _ _ _ _ k' hC' hk'
          have hG' := fun (W : World) h => global_any W (w1.heap.size + 1) w1.heap.size (.slice none 0 0) (adv k') h
          have hk1 := hk'.g1
          have hk2 := hk'.g2
          by_cases hmax : 2147483648 ≤ k'.glob
          · have h1 : advOk k' = false := by simp [advOk, hmax]
            have h2 : advE k' = 1 := by simp [advE, hmax]
            rw [h1, h2] at hE
            simp only [adv_glob_no h1] at hG'
            clear h1 h2 hno
            go_wp2_with (first | (go_at_call 13; refine (hG' _ h3).mono ?_; rintro e w' ⟨rfl, rfl⟩) | (go_at_call 14; refine hE.mono ?_; rintro e w3 ⟨rfl, h3, c3⟩))
            go_ret
            exact ⟨rfl, below_chg hb' c3 (by omega) (by simp; omega)⟩
          · have h1 : advOk k' = true := by simp [advOk, hmax, hno]
            have h2 : advE k' = 0 := by simp [advE, hmax]
            rw [h1, h2] at hE
            simp only [adv_glob_yes h1] at hG'
            clear h1 h2 hno
            go_wp2_with (first | (go_at_call 13; refine (hG' _ h3).mono ?_; rintro e w' ⟨rfl, rfl⟩) | (go_at_call 14; refine hE.mono ?_; rintro e w3 ⟨rfl, h3, c3⟩))
            go_ret
            exact ⟨rfl, below_chg hb' c3 (by omega) (by simp; omega)⟩

end Go.Proofs.Ytmmaklddbkdenaa
