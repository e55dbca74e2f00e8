/- The document's clock (hopperref10): Advance, free, each by its contract; conditions: bounds on the clock's numbers. -/
import Derived.Test.YtmmaklddbkdenaaRefMem
import Derived.Deep.LoopGhost
import Derived.Deep.DeepCutAuto
import Derived.Deep.CutBlock
namespace Go.Proofs.Ytmmaklddbkdenaa
open Go.RowKit

theorem worksP_snoc (l : List Int) (p : Int → Bool) (q : Nat) (hq : q < l.length) : worksP (l.take (q + 1)) p = (worksP (l.take q) p || (decide (0 < l.getD q 0) && p (l.getD q 0))) := by
  unfold worksP
  rw [List.take_succ_eq_append_getElem hq, List.any_append]
  simp [List.getD, hq]
theorem worksP_hit (l : List Int) (p : Int → Bool) (q : Nat) (hq : q < l.length) (h1 : 0 < l.getD q 0) (h2 : p (l.getD q 0) = true) : worksP l p = true := by
  unfold worksP
  rw [List.any_eq_true]
  refine ⟨l[q], List.getElem_mem hq, ?_⟩
  have : l.getD q 0 = l[q] := by simp [List.getD, hq]
  rw [this] at h1 h2
  simp [h1, h2]

set_option maxRecDepth 100000 in
set_option maxHeartbeats 4000000 in
theorem radvance_any (w : World) (r rw : Nat) (tv wv : Value) (k : Ck) (h : IsRef w r rw tv wv k) (hk : k.Ok) :
    Calls Try.prog 28 #[.pointer (some ⟨r, 0, none⟩)] w fun e w' => e = .returned (.tuple #[.bool (advOk k), .int .i64 (advE k)]) ∧ IsRef w' r rw tv wv (adv k) ∧ Chg [r] w w' := by
  have c0 := h.1.at 0 rfl
  have c1 := h.1.at 1 rfl
  have c2 := h.1.at 2 rfl
  have c3 := h.1.at 3 rfl
  have f2 := h.1.free 2
  have f3 := h.1.free 3
  have g1 := hk.g1
  have g2 := hk.g2
  have e1 := hk.e1
  have e2 := hk.e2
  have s1 := hk.s1
  have s2 := hk.s2
  have hl := hk.len
  have hne := h.1.ne h.2 (by decide)
  have HH := Lib.hid h
  clear h
  by_cases hg : 2147483648 ≤ k.glob
  · have ho : advOk k = false := by simp [advOk, hg]
    have he : advE k = 1 := by simp [advE, hg]
    rw [ho, he, adv_no ho]
    clear ho he
    go_enter Try.func28, Try.ntmps28
    go_wp2
    go_ret2
    exact ⟨rfl, HH.out, Chg.refl _ _⟩
  have he : advE k = 0 := by simp [advE, hg]
  rw [he]
  clear he
  go_enter Try.func28, Try.ntmps28
  go_upto_block 0 with fail
  go_cut [] (fun wx => advBehind k = false ∧ ∃ m, wx = w.drewN m)
  case first =>
    go_wp2_with fail
    go_loopg [4] k.ws.length (fun gn iv wr => ∃ j m : Nat, iv = .int .i64 j ∧ j ≤ k.ws.length ∧ gn = k.ws.length - j ∧ worksP (k.ws.take j) (fun n => decide (n < k.glob)) = false ∧ wr = w.drewN m)
    case atStart => exact ⟨0, 0, rfl, Nat.zero_le _, rfl, rfl, rfl⟩
    case round =>
      obtain ⟨j, m, rfl, hj, rfl, hno, rfl⟩ := hrel
      have HN := Lib.hid hno
      clear hno
      by_cases hlt : j < k.ws.length
      · have cj := HH.out.2.at j (getElem?_map_int k.ws j hlt)
        have hst := worksP_snoc k.ws (fun n => decide (n < k.glob)) j hlt
        have hhit := worksP_hit k.ws (fun n => decide (n < k.glob)) j hlt
        rw [HN.out] at hst
        have b0 : (0 : Int) ≤ (j : Int) := by omega
        have b1 : (j : Int) < (k.ws.length : Int) := by omega
        generalize k.ws.getD j 0 = v at cj hst hhit
        have HST := Lib.hid hst
        have HIT := Lib.hid hhit
        clear hst hhit
        by_cases hv : 0 < v
        · by_cases hv2 : v < k.glob
          · have hb : advBehind k = true := HIT.out hv (decide_eq_true hv2)
            have ho : advOk k = false := by simp [advOk, hb]
            have HO := Lib.hid ho
            clear hb ho
            go_wp2_with fail
            go_quiet (fail)
            go_wp2_with fail
            go_ret2
            rw [HO.out, adv_no HO.out]
            exact ⟨rfl, HH.out.chg (((Chg.refl [] _).drewN _).drewN _) (by simp) (by simp), ((Chg.refl _ _).drewN _).drewN _⟩
          · go_wp2_with fail
            go_quiet (fail)
            go_wp2_with fail
            go_roundg (k.ws.length - (j + 1))
            case rel => exact ⟨j + 1, _, by go_num, by omega, rfl, by rw [HST.out, decide_eq_false (by omega : ¬ v < k.glob)]; simp, rfl⟩
            case measure => omega
        · have hd : decide (0 < v) = false := decide_eq_false hv
          go_wp2_with fail
          go_quiet (fail)
          go_wp2_with fail
          go_roundg (k.ws.length - (j + 1))
          case rel => exact ⟨j + 1, _, by go_num, by omega, rfl, by rw [HST.out, hd]; rfl, rfl⟩
          case measure => omega
      · go_wp2_with fail
        go_meet
        refine ⟨?_, m, rfl⟩
        have := HN.out
        rwa [List.take_of_length_le (by omega)] at this
  case rest =>
    obtain ⟨hb, m, rfl⟩ := hcut
    have ho : advOk k = true := by simp [advOk, hb, hg]
    have ha : adv k = { k with glob := k.glob + 1, snap := advSnap k } := by simp [adv, ho]
    have HO := Lib.hid ho
    have HA := Lib.hid ha
    clear ho ha hb
    by_cases hm : (k.glob + 1) % k.every = 0
    · have hs : advSnap k = max k.snap (k.glob - 1) := by simp [advSnap, hm]
      have HS := Lib.hid hs
      have hd : ((k.glob + 1) % k.every == 0) = true := by simpa using hm
      clear hs
      have hm' := Lib.hid hm
      clear hm
      go_wp2_with fail
      go_quiet (fail)
      go_wp2
      go_region
      all_goals go_wp2
      all_goals go_ret2
      · have hmax : max k.snap (k.glob - 1) = k.glob + 1 - 2 := by omega
        rw [HO.out, HA.out, HS.out, hmax]
        refine ⟨rfl, ⟨?_, ?_⟩, ?_⟩
        · (apply Blk.conv; repeat first | with_reducible apply Blk.drew | with_reducible apply Blk.drewN | with_reducible apply Blk.alloc | with_reducible apply Blk.set | (with_reducible apply Blk.far'; (focus (dsimp only; omega))))
          · exact HH.out.1
          rfl
        · (apply Blk.conv; repeat first | with_reducible apply Blk.drew | with_reducible apply Blk.drewN | with_reducible apply Blk.alloc | with_reducible apply Blk.set | (with_reducible apply Blk.far'; (focus (dsimp only; omega))))
          · exact HH.out.2
          rfl
        · (repeat first | with_reducible refine Chg.drew ?_ | with_reducible refine Chg.drewN ?_ _ | with_reducible refine Chg.alloc ?_ _ | with_reducible refine Chg.setCell ?_ (by first | exact .inl (by simp) | exact .inr (by dsimp only; omega)) _)
          exact Chg.refl _ _
      · have hmax : max k.snap (k.glob - 1) = k.snap := by omega
        rw [HO.out, HA.out, HS.out, hmax]
        refine ⟨rfl, ⟨?_, ?_⟩, ?_⟩
        · (apply Blk.conv; repeat first | with_reducible apply Blk.drew | with_reducible apply Blk.drewN | with_reducible apply Blk.alloc | with_reducible apply Blk.set | (with_reducible apply Blk.far'; (focus (dsimp only; omega))))
          · exact HH.out.1
          rfl
        · (apply Blk.conv; repeat first | with_reducible apply Blk.drew | with_reducible apply Blk.drewN | with_reducible apply Blk.alloc | with_reducible apply Blk.set | (with_reducible apply Blk.far'; (focus (dsimp only; omega))))
          · exact HH.out.2
          rfl
        · (repeat first | with_reducible refine Chg.drew ?_ | with_reducible refine Chg.drewN ?_ _ | with_reducible refine Chg.alloc ?_ _ | with_reducible refine Chg.setCell ?_ (by first | exact .inl (by simp) | exact .inr (by dsimp only; omega)) _)
          exact Chg.refl _ _
    · have hs : advSnap k = k.snap := by simp [advSnap, hm]
      have HS := Lib.hid hs
      have hd : ((k.glob + 1) % k.every == 0) = false := by simpa using hm
      clear hs
      have hm' := Lib.hid hm
      clear hm
      go_wp2_with fail
      go_quiet (fail)
      go_wp2
      go_ret2
      rw [HO.out, HA.out, HS.out]
      refine ⟨rfl, ⟨?_, ?_⟩, ?_⟩
      · (apply Blk.conv; repeat first | with_reducible apply Blk.drew | with_reducible apply Blk.drewN | with_reducible apply Blk.alloc | with_reducible apply Blk.set | (with_reducible apply Blk.far'; (focus (dsimp only; omega))))
        · exact HH.out.1
        rfl
      · (apply Blk.conv; repeat first | with_reducible apply Blk.drew | with_reducible apply Blk.drewN | with_reducible apply Blk.alloc | with_reducible apply Blk.set | (with_reducible apply Blk.far'; (focus (dsimp only; omega))))
        · exact HH.out.2
        rfl
      · (repeat first | with_reducible refine Chg.drew ?_ | with_reducible refine Chg.drewN ?_ _ | with_reducible refine Chg.alloc ?_ _ | with_reducible refine Chg.setCell ?_ (by first | exact .inl (by simp) | exact .inr (by dsimp only; omega)) _)
        exact Chg.refl _ _

end Go.Proofs.Ytmmaklddbkdenaa
