/- Sixteen places for workers' epochs, and what stays so of a clock under calls; conditions: none. -/
import Derived.Test.YtmmaklddbkdenaaAmong
namespace Go.Proofs.Ytmmaklddbkdenaa
open Go.RowKit

def atL (ws : List Int) : List Int := ws ++ List.replicate (16 - ws.length) 0
def atV (ws : List Int) : Array Value := ((atL ws).map (Value.int .i64)).toArray

theorem z16 (n : Nat) (h : n ≤ 16) : (#[.int .i64 0, .int .i64 0, .int .i64 0, .int .i64 0, .int .i64 0, .int .i64 0, .int .i64 0, .int .i64 0, .int .i64 0, .int .i64 0, .int .i64 0, .int .i64 0, .int .i64 0, .int .i64 0, .int .i64 0, .int .i64 0] : Array Value) = atV (List.replicate n 0) := by
  have : List.replicate n (0 : Int) ++ List.replicate (16 - n) 0 = List.replicate 16 0 := by rw [List.replicate_append_replicate]; congr 1; omega
  simp [atV, atL, this]
theorem atL_len {ws : List Int} (h : ws.length ≤ 16) : (atL ws).length = 16 := by simp [atL]; omega
theorem worksP_atL (ws : List Int) (p : Int → Bool) : worksP (atL ws) p = worksP ws p := by
  simp [worksP, atL, List.any_append]
theorem atV_get {ws : List Int} (h : ws.length ≤ 16) {j : Nat} (hj : j < 16) : (atV ws)[j]? = some (.int .i64 ((atL ws).getD j 0)) := getElem?_map_int _ _ (by rw [atL_len h]; exact hj)
theorem atV_set {ws : List Int} {j : Nat} (hj : j < ws.length) (v : Int) : (atV ws).setIfInBounds j (.int .i64 v) = atV (ws.set j v) := by
  unfold atV
  rw [toArray_set_int]
  simp [atL, List.set_append_left, hj]
theorem atV_size {ws : List Int} (h : ws.length ≤ 16) : (atV ws).size = 16 := by simp [atV, atL_len h]
theorem turnBad_false {ws : List Int} {i ep : Int} (h : turnBad ws i ep = false) : ∃ m : Nat, i = m ∧ m < ws.length := by
  simp only [turnBad, Bool.or_eq_false_iff, decide_eq_false_iff_not] at h
  exact ⟨i.toNat, by omega, by omega⟩

theorem adv_glob_no {k : Ck} (h : advOk k = false) : (adv k).glob = k.glob := by rw [adv_no h]
theorem adv_glob_yes {k : Ck} (h : advOk k = true) : (adv k).glob = k.glob + 1 := by simp [adv, h]
theorem adv_ws (k : Ck) : (adv k).ws = k.ws := by unfold adv; split <;> rfl
theorem worksP_step (l : List Int) (p : Int → Bool) (q : Nat) (hq : q < l.length) : worksP (l.take (q + 1)) p = (worksP (l.take q) p || (decide (0 < l.getD q 0) && p (l.getD q 0))) := by
  unfold worksP
  rw [List.take_succ_eq_append_getElem hq, List.any_append]
  simp [List.getD, hq]
theorem worksP_all {ws : List Int} (h : ws.length ≤ 16) (p : Int → Bool) : worksP ((atL ws).take 16) p = worksP ws p := by
  rw [List.take_of_length_le (by rw [atL_len h]; omega), worksP_atL]
theorem Try.size30 {ws : List Int} (h : ws.length ≤ 16) : (Try.prog.info? 30).map (·.size) = some (atV ws).size := by rw [atV_size h]; kernel_rfl
theorem Try.index30 {ws : List Int} (h : ws.length ≤ 16) {q : Nat} (hq : q < 16) (W : World) : (Instr.index 30 (.agg (atV ws)) (.int .i64 (q : Int))).run Try.prog W = .ok (.int .i64 ((atL ws).getD q 0)) W := by
  obtain ⟨i0, hi, hz0, hz1, hz2⟩ := info_parts Try.info3
  exact run_index_arr 30 3 Try.underlying30 Try.underlying3 rfl hi hz1 hq (atV_get h hq) W

theorem atL_getD {ws : List Int} (j : Nat) : (atL ws).getD j 0 = ws.getD j 0 := by
  unfold atL
  by_cases h : j < ws.length
  · simp [List.getD, List.getElem?_append_left h]
  · by_cases h2 : j - ws.length < 16 - ws.length
    · simp [List.getD, List.getElem?_append_right (Nat.le_of_not_lt h), h2, Nat.le_of_not_lt h]
    · simp [List.getD, List.getElem?_append_right (Nat.le_of_not_lt h), h2, Nat.le_of_not_lt h]
theorem worksP_none {ws : List Int} (h : ∀ i, i < ws.length → ws.getD i 0 ≤ 0) (p : Int → Bool) : worksP ws p = false := by
  unfold worksP
  rw [List.any_eq_false]
  intro x hx
  obtain ⟨i, hi, rfl⟩ := List.mem_iff_getElem.1 hx
  have := h i hi
  simp [List.getD, hi] at this
  simp; omega

/-- What holds of a clock at every time: a worker that works is at most one behind, and ahead of the snapshot epoch. -/
structure Good (k : Ck) : Prop where
  ok : k.Ok
  sg : k.snap < k.glob
  w : ∀ i, 0 < k.ws.getD i 0 → k.glob - 1 ≤ k.ws.getD i 0 ∧ k.ws.getD i 0 ≤ k.glob ∧ k.snap < k.ws.getD i 0

theorem getD_set {l : List Int} {i j : Nat} {v : Int} (hi : i < l.length) : (l.set i v).getD j 0 = if i = j then v else l.getD j 0 := by
  by_cases e : i = j
  · subst e; simp [List.getD, hi]
  · simp [List.getD, List.getElem?_set, e]
theorem Good.turn {k : Ck} (h : Good k) (i ep : Int) (he : ep = 0 ∨ ep = k.glob) : Good (turnK k i ep) := by
  refine ⟨turnK_ok h.ok i ep, h.sg, ?_⟩
  cases hb : turnBad k.ws i ep with
  | true => rw [(turn_bad hb).2]; exact h.w
  | false =>
    obtain ⟨m, rfl, hm⟩ := turnBad_false hb
    rw [(turn_good hb).2]
    intro j
    show 0 < (k.ws.set m ep).getD j 0 → k.glob - 1 ≤ (k.ws.set m ep).getD j 0 ∧ (k.ws.set m ep).getD j 0 ≤ k.glob ∧ k.snap < (k.ws.set m ep).getD j 0
    rw [getD_set hm]
    have := h.sg
    split
    · intro hp; rcases he with rfl | rfl <;> omega
    · exact h.w j
theorem mem_worksP {ws : List Int} {p : Int → Bool} (h : worksP ws p = false) (i : Nat) (hp : 0 < ws.getD i 0) : p (ws.getD i 0) = false := by
  unfold worksP at h
  rw [List.any_eq_false] at h
  by_cases hi : i < ws.length
  · have := h ws[i] (List.getElem_mem hi)
    have e : ws.getD i 0 = ws[i] := by simp [List.getD, hi]
    rw [e] at hp ⊢
    simpa [hp] using this
  · have : ws.getD i 0 = 0 := by simp [List.getD, hi]
    omega
theorem Good.rise {k : Ck} (h : Good k) : Good (adv k) ∧ k.glob ≤ (adv k).glob ∧ k.snap ≤ (adv k).snap := by
  cases hb : advOk k with
  | false => rw [adv_no hb]; exact ⟨h, Int.le_refl _, Int.le_refl _⟩
  | true =>
    have hok := adv_ok h.ok
    have hbe : advBehind k = false := by
      simp only [advOk, Bool.and_eq_true, Bool.not_eq_true'] at hb
      exact hb.2
    have hsg := h.sg
    have hs : k.snap ≤ advSnap k ∧ advSnap k < k.glob := by
      unfold advSnap
      split
      · omega
      · omega
    have ha : adv k = { k with glob := k.glob + 1, snap := advSnap k } := by simp [adv, hb]
    rw [ha] at hok ⊢
    refine ⟨⟨hok, by show advSnap k < k.glob + 1; omega, fun i hp => ?_⟩, by show k.glob ≤ k.glob + 1; omega, hs.1⟩
    have h1 := h.w i hp
    have h2 := mem_worksP hbe i hp
    simp only [decide_eq_false_iff_not] at h2
    show k.glob + 1 - 1 ≤ k.ws.getD i 0 ∧ k.ws.getD i 0 ≤ k.glob + 1 ∧ advSnap k < k.ws.getD i 0
    omega
theorem newK_good {n e g : Int} (h : newBad n e g = false) : Good (newK n e g) := by
  refine ⟨newK_ok h, by show g - 1 < g; omega, fun i hp => ?_⟩
  exfalso
  have : (newK n e g).ws.getD i 0 = 0 := by
    show (List.replicate n.toNat (0 : Int)).getD i 0 = 0
    by_cases hi : i < n.toNat
    · simp [List.getD, hi]
    · simp [List.getD, hi]
  omega

end Go.Proofs.Ytmmaklddbkdenaa
