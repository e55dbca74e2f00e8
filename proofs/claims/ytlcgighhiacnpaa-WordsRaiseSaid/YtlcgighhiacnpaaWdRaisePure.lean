/- A cell that tasks raise: once for each that has stopped, once at most for each; conditions: none. -/
import Derived.Test.YtlcgighhiacnpaaWdLaws
namespace Go.Proofs.Ytlcgighhiacnpaa
open Go.RowKit

def raisingL : List Ins := [⟨4, 0, 0, 0⟩, ⟨3, 1, 0, 1⟩, ⟨6, 0, 1, 0⟩, ⟨7, 0, 0, 0⟩]
def win (tk : Tk) : Bool := decide (tk.pos = 4) || (decide (tk.pos = 3) && decide (tk.regs.getD 0 0 = 1))
structure GoodTk (tk : Tk) : Prop where
  len : tk.regs.length = 8
  pos : tk.pos = 0 ∨ tk.pos = 1 ∨ (tk.pos = 3 ∧ (tk.regs.getD 0 0 = 0 ∨ tk.regs.getD 0 0 = 1)) ∨ tk.pos = 4
theorem ex0 (r : List Nat) (c : Nat) : exec raisingL ⟨r, 0⟩ [c] = (⟨r.set 0 c, 1⟩, [c], true) := rfl
theorem ex1 (r : List Nat) (c : Nat) : exec raisingL ⟨r, 1⟩ [c] = (⟨r.set 1 ((r.getD 0 0 + 1) % 18446744073709551616), 2⟩, [c], false) := rfl
theorem ex2 (r : List Nat) (c : Nat) : exec raisingL ⟨r, 2⟩ [c] = if c = r.getD 0 0 then (⟨r.set 0 1, 3⟩, [r.getD 1 0], true) else (⟨r.set 0 0, 3⟩, [c], true) := rfl
theorem ex3 (r : List Nat) (c : Nat) : exec raisingL ⟨r, 3⟩ [c] = (⟨r, if r.getD 0 0 = 0 then 0 else 4⟩, [c], false) := rfl
theorem set_get0 {r : List Nat} (h : r.length = 8) (v : Nat) : (r.set 0 v).getD 0 0 = v := by rw [getD_setN (by omega), if_pos rfl]
theorem raise_step {tk : Tk} (hg : GoodTk tk) (hp : tk.pos ≠ 4) {c : Nat} (hc : c + 1 < 18446744073709551616) : ∃ tk' c', stepM raisingL 64 tk [c] = (tk', [c']) ∧ GoodTk tk' ∧ ((win tk' = win tk ∧ c' = c) ∨ (win tk = false ∧ win tk' = true ∧ c' = c + 1)) := by
  obtain ⟨r, p⟩ := tk
  obtain ⟨hl, hpos⟩ := hg
  dsimp only at hl hpos hp
  rcases hpos with rfl | rfl | ⟨rfl, hr⟩ | rfl
  · refine ⟨⟨r.set 0 c, 1⟩, c, ?_, ⟨by simpa using hl, .inr (.inl rfl)⟩, .inl ⟨rfl, rfl⟩⟩
    rw [stepM_succ, if_neg (by show ¬ 4 ≤ 0; omega), ex0]
  · by_cases he : c = r.getD 0 0
    · subst he
      refine ⟨⟨(r.set 1 ((r.getD 0 0 + 1) % 18446744073709551616)).set 0 1, 3⟩, r.getD 0 0 + 1, ?_, ⟨by simpa using hl, .inr (.inr (.inl ⟨rfl, .inr (set_get0 (by simpa using hl) _)⟩))⟩, .inr ⟨rfl, ?_, rfl⟩⟩
      · rw [stepM_succ, if_neg (by show ¬ 4 ≤ 1; omega), ex1]
        dsimp only
        rw [stepM_succ, if_neg (by show ¬ 4 ≤ 2; omega), ex2, if_pos (by rw [getD_setN (by omega), if_neg (by omega)])]
        dsimp only
        rw [getD_setN (by omega), if_pos rfl, Nat.mod_eq_of_lt hc]
      · unfold win
        dsimp only
        rw [set_get0 (by simpa using hl)]
        rfl
    · refine ⟨⟨(r.set 1 ((r.getD 0 0 + 1) % 18446744073709551616)).set 0 0, 3⟩, c, ?_, ⟨by simpa using hl, .inr (.inr (.inl ⟨rfl, .inl (set_get0 (by simpa using hl) _)⟩))⟩, .inl ⟨?_, rfl⟩⟩
      · rw [stepM_succ, if_neg (by show ¬ 4 ≤ 1; omega), ex1]
        dsimp only
        rw [stepM_succ, if_neg (by show ¬ 4 ≤ 2; omega), ex2, if_neg (by rw [getD_setN (by omega), if_neg (by omega)]; exact he)]
      · unfold win
        dsimp only
        rw [set_get0 (by simpa using hl)]
        rfl
  · rcases hr with h0 | h1
    · refine ⟨⟨r.set 0 c, 1⟩, c, ?_, ⟨by simpa using hl, .inr (.inl rfl)⟩, .inl ⟨?_, rfl⟩⟩
      · rw [stepM_succ, if_neg (by show ¬ 4 ≤ 3; omega), ex3, if_pos h0]
        dsimp only
        rw [stepM_succ, if_neg (by show ¬ 4 ≤ 0; omega), ex0]
      · unfold win
        dsimp only
        rw [h0]
        rfl
    · refine ⟨⟨r, 4⟩, c, ?_, ⟨hl, .inr (.inr (.inr rfl))⟩, .inl ⟨?_, rfl⟩⟩
      · rw [stepM_succ, if_neg (by show ¬ 4 ≤ 3; omega), ex3, if_neg (by omega)]
        dsimp only
        rw [stepM_succ, if_pos (by show 4 ≤ 4; omega)]
      · unfold win
        dsimp only
        rw [h1]
        rfl
  · exact absurd rfl hp
structure RaiseInv (m : Nat) (s : St) : Prop where
  len : s.tks.length = m
  good : ∀ t, t < m → GoodTk (s.tks.getD t tk0)
  cell : s.C = [7 + s.tks.countP win]
theorem raise_pick {m : Nat} {s : St} (hm : m ≤ 6) (h : RaiseInv m s) {q : Nat} (hq : q < m) : RaiseInv m (pickM (List.replicate m raisingL) s (q : Int)) := by
  have hT : (List.replicate m raisingL).getD q [] = raisingL := by simp [List.getD, hq]
  have hst : stopM (List.replicate m raisingL) s ((q : Int).toNat) = decide (4 ≤ (s.tks.getD q tk0).pos) := by
    unfold stopM; rw [Int.toNat_natCast, hT]; rfl
  have hql : q < s.tks.length := by rw [h.len]; exact hq
  have hgq := h.good q hq
  by_cases h4 : 4 ≤ (s.tks.getD q tk0).pos
  · rw [pickM_stop (by rw [hst]; exact decide_eq_true h4)]; exact h
  · rw [pickM_go (by rw [hst]; exact decide_eq_false h4)]
    rw [Int.toNat_natCast, hT, h.cell]
    have hcp : s.tks.countP win ≤ m := by rw [← h.len]; exact List.countP_le_length
    obtain ⟨tk', c', he, hg', hw⟩ := raise_step hgq (by omega) (c := 7 + s.tks.countP win) (by omega)
    rw [he]
    have hi : s.tks.getD q tk0 = s.tks[q] := by simp [List.getD, hql]
    refine ⟨by simpa using h.len, fun t ht => ?_, ?_⟩
    · show GoodTk ((s.tks.set q tk').getD t tk0)
      rw [getD_setTk hql]
      split
      · exact hg'
      · exact h.good t ht
    · show [c'] = [7 + (s.tks.set q tk').countP win]
      rw [List.countP_set hql, ← hi]
      have hle : (if win (s.tks.getD q tk0) = true then 1 else 0) ≤ s.tks.countP win := by
        rw [hi]; exact List.boole_getElem_le_countP hql
      rcases hw with ⟨h1, h2⟩ | ⟨h1, h2, h3⟩
      · rw [h1, h2]; congr 1; split at hle <;> split <;> simp_all <;> omega
      · rw [h1, h2, h3]; simp; omega
theorem raise_run (m : Nat) (hm : 1 ≤ m ∧ m ≤ 6) (P : List Int) (hP : ∀ x ∈ P, 0 ≤ x ∧ x < (m : Int)) (hl : P.length ≤ 500) :
    ∃ (R : Rep) (k : Nat), runM (List.replicate m raisingL) [7] P = (R, 0) ∧ R.cells = [7 + k] ∧ R.done.length = m ∧ R.done.count true ≤ k ∧ k ≤ m ∧ R.steps ≤ 1048576 := by
  have hok : (chk (List.replicate m raisingL) ([7] : List Nat).length).2.2 = 0 := chk_of ⟨by simp; omega, by decide, by decide, fun l hl => by
    have := List.eq_of_mem_replicate hl
    subst this
    exact ⟨by decide, by decide⟩⟩
  have inv : ∀ (Q : List Int) (s : St), (∀ x ∈ Q, 0 ≤ x ∧ x < (m : Int)) → RaiseInv m s → RaiseInv m (Q.foldl (pickM (List.replicate m raisingL)) s) := by
    intro Q
    induction Q with
    | nil => intro s _ h; exact h
    | cons x Q ih =>
      intro s hQ h
      rw [List.foldl_cons]
      refine ih _ (fun y hy => hQ y (by simp [hy])) ?_
      have hx := hQ x (by simp)
      obtain ⟨q, rfl⟩ := Int.eq_ofNat_of_zero_le hx.1
      exact raise_pick hm.2 h (by omega)
  have h0 : RaiseInv m (st0 (List.replicate m raisingL) [7]) := by
    refine ⟨by simp [st0], fun t ht => ?_, ?_⟩
    · have : (st0 (List.replicate m raisingL) [7]).tks.getD t tk0 = tk0 := by simp [st0, List.getD, ht]
      rw [this]
      exact ⟨rfl, .inl rfl⟩
    · have : (List.replicate (List.replicate m raisingL).length tk0).countP win = 0 := by
        rw [List.countP_eq_zero]
        intro a ha
        rw [List.eq_of_mem_replicate ha]
        decide
      show [7] = [7 + (List.replicate (List.replicate m raisingL).length tk0).countP win]
      rw [this]
  have hi : RaiseInv m (runS (List.replicate m raisingL) [7] P) := inv P _ hP h0
  have hrun := runM_of (P := P) hok (by omega) (by rw [List.length_replicate]; exact hP)
  refine ⟨_, (runS (List.replicate m raisingL) [7] P).tks.countP win, hrun, hi.cell, ?_, ?_, ?_, ?_⟩
  · show (doneTo _ _ _).length = m
    rw [doneTo_len, List.length_replicate]
  · have hd : (repOf (List.replicate m raisingL) (runS (List.replicate m raisingL) [7] P)).done = (runS (List.replicate m raisingL) [7] P).tks.map fun tk => decide (4 ≤ tk.pos) := by
      show doneTo _ _ _ = _
      rw [List.length_replicate]
      refine List.ext_getElem (by rw [doneTo_len, List.length_map]; exact hi.len.symm) fun i h1 h2 => ?_
      have hil : i < m := by rwa [doneTo_len] at h1
      simp only [doneTo, List.getElem_map, List.getElem_range, stopM]
      have e1 : (List.replicate m raisingL).getD i [] = raisingL := by simp [List.getD, hil]
      have e2 : (runS (List.replicate m raisingL) [7] P).tks.getD i tk0 = (runS (List.replicate m raisingL) [7] P).tks[i]'(by rw [List.length_map] at h2; exact h2) := by
        rw [List.length_map] at h2
        simp [List.getD, h2]
      rw [e1, e2]
      rfl
    rw [hd, List.count, List.countP_map]
    refine List.countP_mono_left fun tk htk h => ?_
    obtain ⟨i, hi1, hi2⟩ := List.mem_iff_getElem.1 htk
    have hg := hi.good i (by rw [← hi.len]; exact hi1)
    have e2 : (runS (List.replicate m raisingL) [7] P).tks.getD i tk0 = tk := by simp [List.getD, hi1, hi2]
    rw [e2] at hg
    have h4 : 4 ≤ tk.pos := by simpa using h
    have := hg.pos
    unfold win
    simp
    omega
  · have := List.countP_le_length (p := win) (l := (runS (List.replicate m raisingL) [7] P).tks)
    rw [hi.len] at this
    exact this
  · have hs : ∀ (Q : List Int) (s : St), (Q.foldl (pickM (List.replicate m raisingL)) s).steps ≤ s.steps + Q.length := by
      intro Q
      induction Q with
      | nil => intro s; exact Nat.le_refl _
      | cons x Q ih =>
        intro s
        rw [List.foldl_cons]
        have := ih (pickM (List.replicate m raisingL) s x)
        have h1 : (pickM (List.replicate m raisingL) s x).steps ≤ s.steps + 1 := by
          cases h : stopM (List.replicate m raisingL) s x.toNat with
          | true => rw [pickM_stop h]; omega
          | false => rw [pickM_go h]; exact Nat.le_refl _
        simp only [List.length_cons]
        omega
    have := hs P (st0 (List.replicate m raisingL) [7])
    have e : (st0 (List.replicate m raisingL) [7]).steps = 0 := rfl
    show (P.foldl (pickM (List.replicate m raisingL)) (st0 (List.replicate m raisingL) [7])).steps ≤ _
    omega

end Go.Proofs.Ytlcgighhiacnpaa
