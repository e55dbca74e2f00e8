/- Plain laws of Run: what is checked, picks of stopped tasks, tasks apart, a cell raised; conditions: none. -/
import Derived.Test.YtlcgighhiacnpaaWdRunPure
namespace Go.Proofs.Ytlcgighhiacnpaa
open Go.RowKit

theorem chkL_ok {many cells : Int} {l : List Ins} {i : Nat} (h : ∀ x ∈ l, okI x many cells = true) : chkL many cells l i = none := by
  induction l generalizing i with
  | nil => rfl
  | cons y l ih => unfold chkL; rw [if_pos (h y (by simp))]; exact ih fun x hx => h x (by simp [hx])
theorem chkT_of {cells : Int} {T : List (List Ins)} {t : Nat} (h : ∀ l ∈ T, l.length ≤ 4096 ∧ ∀ x ∈ l, okI x l.length cells = true) : (chkT cells T t).2.2 = 0 := by
  induction T generalizing t with
  | nil => rfl
  | cons y T ih =>
    unfold chkT
    have h1 := h y (by simp)
    rw [if_neg (by omega), chkL_ok h1.2]
    exact ih fun l hl => h l (by simp [hl])
theorem chk_of {T : List (List Ins)} {c : Int} (h : OkTs T c) : (chk T c).2.2 = 0 := by
  obtain ⟨a, b, c, d⟩ := h
  unfold chk
  rw [if_neg (by omega)]
  exact chkT_of d

theorem runM_split (T : List (List Ins)) (C : List Nat) (P : List Int) : (∃ c : Int, c ≠ 0 ∧ runM T C P = (rep0, c)) ∨ ((chk T C.length).2.2 = 0 ∧ P.length ≤ 1048576 ∧ (∀ x ∈ P, 0 ≤ x ∧ x < (T.length : Int)) ∧ runM T C P = (repOf T (runS T C P), 0)) := by
  unfold runM
  by_cases h1 : (chk T C.length).2.2 ≠ 0
  · rw [if_pos h1]; exact .inl ⟨_, h1, rfl⟩
  · rw [if_neg h1]
    by_cases h2 : 1048576 < P.length
    · rw [if_pos h2]; exact .inl ⟨2, by decide, rfl⟩
    · rw [if_neg h2]
      cases h3 : P.any fun x => decide (x < 0 ∨ (T.length : Int) ≤ x) with
      | true => exact .inl ⟨1, by decide, rfl⟩
      | false =>
        refine .inr ⟨by omega, by omega, fun x hx => ?_, rfl⟩
        have := List.any_eq_false.1 h3 x hx
        simp only [decide_eq_true_eq] at this
        omega
theorem runM_of {T : List (List Ins)} {C : List Nat} {P : List Int} (h1 : (chk T C.length).2.2 = 0) (h2 : P.length ≤ 1048576) (h3 : ∀ x ∈ P, 0 ≤ x ∧ x < (T.length : Int)) : runM T C P = (repOf T (runS T C P), 0) := by
  unfold runM
  rw [if_neg (by simp [h1]), if_neg (by omega)]
  have : (P.any fun x => decide (x < 0 ∨ (T.length : Int) ≤ x)) = false := List.any_eq_false.2 fun x hx => by
    have := h3 x hx
    simp only [decide_eq_true_eq]
    omega
  rw [this]

theorem pickM_stop {T : List (List Ins)} {s : St} {p : Int} (h : stopM T s p.toNat = true) : pickM T s p = s := by unfold pickM; rw [h]
theorem pickM_go {T : List (List Ins)} {s : St} {p : Int} (h : stopM T s p.toNat = false) : pickM T s p = ⟨s.tks.set p.toNat (stepM (T.getD p.toNat []) 64 (s.tks.getD p.toNat tk0) s.C).1, (stepM (T.getD p.toNat []) 64 (s.tks.getD p.toNat tk0) s.C).2, s.steps + 1⟩ := by unfold pickM; rw [h]

/-- The picks that WordsIdle puts behind. -/
def idlePicks (D : List Bool) : Nat → List Int
  | 0 => []
  | n + 1 => if D.getD n false then idlePicks D n ++ [(n : Int), (n : Int)] else idlePicks D n
theorem idle_len (D : List Bool) (n : Nat) : (idlePicks D n).length ≤ 2 * n := by
  induction n with
  | zero => simp [idlePicks]
  | succ n ih =>
    unfold idlePicks
    split
    · simp; omega
    · omega
theorem idle_true {D : List Bool} {n : Nat} (h : D.getD n false = true) : idlePicks D (n + 1) = idlePicks D n ++ [(n : Int), (n : Int)] := by show (if _ then _ else _) = _; rw [if_pos h]
theorem idle_false {D : List Bool} {n : Nat} (h : D.getD n false = false) : idlePicks D (n + 1) = idlePicks D n := by show (if _ then _ else _) = _; rw [if_neg (by rw [h]; decide)]
theorem idle_mem {D : List Bool} {n : Nat} : ∀ x ∈ idlePicks D n, 0 ≤ x ∧ x < (n : Int) := by
  induction n with
  | zero => simp [idlePicks]
  | succ n ih =>
    intro x hx
    unfold idlePicks at hx
    split at hx
    · rcases List.mem_append.1 hx with hx | hx
      · have := ih x hx; omega
      · simp at hx; omega
    · have := ih x hx; omega
theorem idle_fold (T : List (List Ins)) (s : St) (m n : Nat) (hn : n ≤ m) : (idlePicks (doneTo T s m) n).foldl (pickM T) s = s := by
  induction n with
  | zero => rfl
  | succ n ih =>
    have hd : (doneTo T s m).getD n false = stopM T s n := by
      have : n < m := by omega
      simp [doneTo, List.getD, this]
    unfold idlePicks
    rw [hd]
    split
    · rename_i h
      rw [List.foldl_append, ih (by omega)]
      simp only [List.foldl_cons, List.foldl_nil]
      have e : pickM T s (n : Int) = s := pickM_stop (by simpa using h)
      rw [e, e]
    · exact ih (by omega)
theorem idle_run {T : List (List Ins)} {C : List Nat} {P : List Int} {R : Rep} (h : runM T C P = (R, 0)) (hl : P.length ≤ 2000) :
    R.done.length ≤ 4096 ∧ runM T C (P ++ idlePicks R.done R.done.length) = (R, 0) := by
  rcases runM_split T C P with ⟨c, hc, hr⟩ | ⟨h1, h2, h3, hr⟩
  · rw [hr] at h; injection h with _ h; exact absurd h hc
  · rw [hr] at h
    injection h with h _
    subst h
    have hd : (repOf T (runS T C P)).done = doneTo T (runS T C P) T.length := rfl
    have hdl : (doneTo T (runS T C P) T.length).length = T.length := doneTo_len _ _ _
    have hT := (chk_ok h1).1
    rw [hd, hdl]
    refine ⟨hT, ?_⟩
    rw [runM_of h1 (by have := idle_len (doneTo T (runS T C P) T.length) T.length; simp; omega) (fun x hx => by
      rcases List.mem_append.1 hx with hx | hx
      · exact h3 x hx
      · exact idle_mem x hx)]
    have : runS T C (P ++ idlePicks (doneTo T (runS T C P) T.length) T.length) = runS T C P := by
      show (P ++ _).foldl (pickM T) (st0 T C) = _
      rw [List.foldl_append]
      exact idle_fold T _ _ _ (Nat.le_refl _)
    rw [this]
theorem runM_err0 {T : List (List Ins)} {C : List Nat} {P : List Int} {R : Rep} {c : Int} (h : runM T C P = (R, c)) (hc : c ≠ 0) : R = rep0 := by
  rcases runM_split T C P with ⟨c', _, hr⟩ | ⟨_, _, _, hr⟩
  · rw [hr] at h; injection h with h _; exact h.symm
  · rw [hr] at h; injection h with _ h; exact absurd h.symm hc

/-- An instruction turned to one cell. -/
def ovI (c : Int) (x : Ins) : Ins := if 4 ≤ x.k ∧ x.k ≤ 6 then ⟨x.k, x.a, x.b, c⟩ else x
def ov (c : Int) (l : List Ins) : List Ins := l.map (ovI c)
theorem ov_len (c : Int) (l : List Ins) : (ov c l).length = l.length := by simp [ov]
theorem ov_getD (c : Int) (l : List Ins) (i : Nat) : (ov c l).getD i ins0 = ovI c (l.getD i ins0) := by
  unfold ov
  by_cases h : i < l.length
  · simp [List.getD, h]
  · simp only [List.getD, List.getElem?_map]
    rw [List.getElem?_eq_none (by omega)]
    rfl
theorem ovI_n (c : Int) (x : Ins) (h : 4 ≤ (ovI c x).k ∧ (ovI c x).k ≤ 6) : (ovI c x).n = c := by
  unfold ovI at h ⊢
  split
  · rfl
  · rename_i h2; rw [if_neg h2] at h; exact absurd h h2
theorem okI_ov {x : Ins} {many : Int} {c : Int} (hc : c = 0 ∨ c = 1) (h : okI x many 2 = true) : okI (ovI c x) many 2 = true := by
  unfold ovI
  split
  · rename_i hk
    unfold okI at h ⊢
    dsimp only
    split at h
    · cases h
    · rename_i h1
      rw [if_neg h1]
      split
      · rfl
      · rw [if_pos (by omega)]
        rcases hc with rfl | rfl <;> simp
  · exact h
theorem gz (c0 c1 : Nat) : [c0, c1].getD (0 : Int).toNat 0 = c0 := rfl
theorem go1 (c0 c1 : Nat) : [c0, c1].getD (1 : Int).toNat 0 = c1 := rfl
theorem exec_ov0 (l : List Ins) (tk : Tk) (c0 : Nat) : ∃ tk' c0' b, ∀ c1, exec (ov 0 l) tk [c0, c1] = (tk', [c0', c1], b) := by
  unfold exec
  have hx := ovI_n 0 (l.getD tk.pos ins0)
  rw [ov_getD]
  generalize ovI 0 (l.getD tk.pos ins0) = x at hx
  obtain ⟨xk, xa, xb, xn⟩ := x
  dsimp only at hx ⊢
  by_cases h1 : xk = 1
  · exact ⟨_, c0, _, fun c1 => by rw [if_pos h1]⟩
  by_cases h2 : xk = 2
  · exact ⟨_, c0, _, fun c1 => by rw [if_neg h1, if_pos h2]⟩
  by_cases h3 : xk = 3
  · exact ⟨_, c0, _, fun c1 => by rw [if_neg h1, if_neg h2, if_pos h3]⟩
  by_cases h4 : xk = 4
  · have hn : xn = 0 := hx (by omega)
    exact ⟨_, c0, _, fun c1 => by rw [if_neg h1, if_neg h2, if_neg h3, if_pos h4, hn, gz]⟩
  by_cases h5 : xk = 5
  · have hn : xn = 0 := hx (by omega)
    exact ⟨_, _, _, fun c1 => by rw [if_neg h1, if_neg h2, if_neg h3, if_neg h4, if_pos h5, hn]; rfl⟩
  by_cases h6 : xk = 6
  · have hn : xn = 0 := hx (by omega)
    by_cases hc : c0 = tk.regs.getD xa.toNat 0
    · exact ⟨_, _, _, fun c1 => by rw [if_neg h1, if_neg h2, if_neg h3, if_neg h4, if_neg h5, if_pos h6, hn, gz, if_pos hc]; rfl⟩
    · exact ⟨_, _, _, fun c1 => by rw [if_neg h1, if_neg h2, if_neg h3, if_neg h4, if_neg h5, if_pos h6, hn, gz, if_neg hc]⟩
  by_cases h7 : xk = 7
  · exact ⟨_, c0, _, fun c1 => by rw [if_neg h1, if_neg h2, if_neg h3, if_neg h4, if_neg h5, if_neg h6, if_pos h7]⟩
  · exact ⟨_, c0, _, fun c1 => by rw [if_neg h1, if_neg h2, if_neg h3, if_neg h4, if_neg h5, if_neg h6, if_neg h7]⟩
theorem exec_ov1 (l : List Ins) (tk : Tk) (c1 : Nat) : ∃ tk' c1' b, ∀ c0, exec (ov 1 l) tk [c0, c1] = (tk', [c0, c1'], b) := by
  unfold exec
  have hx := ovI_n 1 (l.getD tk.pos ins0)
  rw [ov_getD]
  generalize ovI 1 (l.getD tk.pos ins0) = x at hx
  obtain ⟨xk, xa, xb, xn⟩ := x
  dsimp only at hx ⊢
  by_cases h1 : xk = 1
  · exact ⟨_, c1, _, fun c0 => by rw [if_pos h1]⟩
  by_cases h2 : xk = 2
  · exact ⟨_, c1, _, fun c0 => by rw [if_neg h1, if_pos h2]⟩
  by_cases h3 : xk = 3
  · exact ⟨_, c1, _, fun c0 => by rw [if_neg h1, if_neg h2, if_pos h3]⟩
  by_cases h4 : xk = 4
  · have hn : xn = 1 := hx (by omega)
    exact ⟨_, c1, _, fun c0 => by rw [if_neg h1, if_neg h2, if_neg h3, if_pos h4, hn, go1]⟩
  by_cases h5 : xk = 5
  · have hn : xn = 1 := hx (by omega)
    exact ⟨_, _, _, fun c0 => by rw [if_neg h1, if_neg h2, if_neg h3, if_neg h4, if_pos h5, hn]; rfl⟩
  by_cases h6 : xk = 6
  · have hn : xn = 1 := hx (by omega)
    by_cases hc : c1 = tk.regs.getD xa.toNat 0
    · exact ⟨_, _, _, fun c0 => by rw [if_neg h1, if_neg h2, if_neg h3, if_neg h4, if_neg h5, if_pos h6, hn, go1, if_pos hc]; rfl⟩
    · exact ⟨_, _, _, fun c0 => by rw [if_neg h1, if_neg h2, if_neg h3, if_neg h4, if_neg h5, if_pos h6, hn, go1, if_neg hc]⟩
  by_cases h7 : xk = 7
  · exact ⟨_, c1, _, fun c0 => by rw [if_neg h1, if_neg h2, if_neg h3, if_neg h4, if_neg h5, if_neg h6, if_pos h7]⟩
  · exact ⟨_, c1, _, fun c0 => by rw [if_neg h1, if_neg h2, if_neg h3, if_neg h4, if_neg h5, if_neg h6, if_neg h7]⟩
theorem stepM_zero (l : List Ins) (tk : Tk) (C : List Nat) : stepM l 0 tk C = (tk, C) := rfl
theorem stepM_succ (l : List Ins) (f : Nat) (tk : Tk) (C : List Nat) : stepM l (f + 1) tk C = if l.length ≤ tk.pos then (tk, C) else
    match exec l tk C with
    | (tk', C', true) => (tk', C')
    | (tk', C', false) => stepM l f tk' C' := rfl
theorem step_ov0 (l : List Ins) (f : Nat) (tk : Tk) (c0 : Nat) : ∃ tk' c0', ∀ c1, stepM (ov 0 l) f tk [c0, c1] = (tk', [c0', c1]) := by
  induction f generalizing tk c0 with
  | zero => exact ⟨tk, c0, fun _ => rfl⟩
  | succ f ih =>
    by_cases h : (ov 0 l).length ≤ tk.pos
    · exact ⟨tk, c0, fun c1 => by rw [stepM_succ, if_pos h]⟩
    · obtain ⟨tk1, d, b, he⟩ := exec_ov0 l tk c0
      cases b with
      | true => exact ⟨tk1, d, fun c1 => by rw [stepM_succ, if_neg h, he]⟩
      | false =>
        obtain ⟨tk2, d2, h2⟩ := ih tk1 d
        exact ⟨tk2, d2, fun c1 => by rw [stepM_succ, if_neg h, he]; exact h2 c1⟩
theorem step_ov1 (l : List Ins) (f : Nat) (tk : Tk) (c1 : Nat) : ∃ tk' c1', ∀ c0, stepM (ov 1 l) f tk [c0, c1] = (tk', [c0, c1']) := by
  induction f generalizing tk c1 with
  | zero => exact ⟨tk, c1, fun _ => rfl⟩
  | succ f ih =>
    by_cases h : (ov 1 l).length ≤ tk.pos
    · exact ⟨tk, c1, fun c0 => by rw [stepM_succ, if_pos h]⟩
    · obtain ⟨tk1, d, b, he⟩ := exec_ov1 l tk c1
      cases b with
      | true => exact ⟨tk1, d, fun c0 => by rw [stepM_succ, if_neg h, he]⟩
      | false =>
        obtain ⟨tk2, d2, h2⟩ := ih tk1 d
        exact ⟨tk2, d2, fun c0 => by rw [stepM_succ, if_neg h, he]; exact h2 c0⟩

/-- Of the picks those of the first task, of the second one, as each alone is picked. -/
def firsts (p : List Int) : List Int := (p.filter fun x => x == 0).map fun _ => 0
def seconds (p : List Int) : List Int := (p.filter fun x => !(x == 0)).map fun _ => 0
theorem apart_fold (a b : List Ins) (p : List Int) (hp : ∀ x ∈ p, x = 0 ∨ x = 1) (ta tb : Tk) (c0 c1 n1 n2 : Nat) : ∃ ta' tb' c0' c1' m1 m2, m1 ≤ n1 + p.length ∧ m2 ≤ n2 + p.length ∧
    p.foldl (pickM [ov 0 a, ov 1 b]) ⟨[ta, tb], [c0, c1], n1 + n2⟩ = ⟨[ta', tb'], [c0', c1'], m1 + m2⟩ ∧
    (firsts p).foldl (pickM [ov 0 a]) ⟨[ta], [c0, 4], n1⟩ = ⟨[ta'], [c0', 4], m1⟩ ∧ (seconds p).foldl (pickM [ov 1 b]) ⟨[tb], [3, c1], n2⟩ = ⟨[tb'], [3, c1'], m2⟩ := by
  induction p generalizing ta tb c0 c1 n1 n2 with
  | nil => exact ⟨ta, tb, c0, c1, n1, n2, by simp, by simp, rfl, rfl, rfl⟩
  | cons x p ih =>
    have hp' : ∀ x ∈ p, x = 0 ∨ x = 1 := fun y hy => hp y (by simp [hy])
    rcases hp x (by simp) with rfl | rfl
    · have e1 : firsts (0 :: p) = 0 :: firsts p := rfl
      have e2 : seconds (0 :: p) = seconds p := rfl
      rw [e1, e2, List.foldl_cons, List.foldl_cons]
      by_cases hs : (ov 0 a).length ≤ ta.pos
      · have k1 : pickM [ov 0 a, ov 1 b] ⟨[ta, tb], [c0, c1], n1 + n2⟩ 0 = ⟨[ta, tb], [c0, c1], n1 + n2⟩ := pickM_stop (decide_eq_true hs)
        have k2 : pickM [ov 0 a] ⟨[ta], [c0, 4], n1⟩ 0 = ⟨[ta], [c0, 4], n1⟩ := pickM_stop (decide_eq_true hs)
        rw [k1, k2]
        obtain ⟨x1, x2, x3, x4, x5, x6, l1, l2, x7⟩ := ih hp' ta tb c0 c1 n1 n2
        exact ⟨x1, x2, x3, x4, x5, x6, by simp; omega, by simp; omega, x7⟩
      · obtain ⟨ta1, d0, h0⟩ := step_ov0 a 64 ta c0
        have k1 : pickM [ov 0 a, ov 1 b] ⟨[ta, tb], [c0, c1], n1 + n2⟩ 0 = ⟨[ta1, tb], [d0, c1], (n1 + 1) + n2⟩ := by
          rw [pickM_go (show stopM [ov 0 a, ov 1 b] ⟨[ta, tb], [c0, c1], n1 + n2⟩ (0 : Int).toNat = false from decide_eq_false hs)]
          show St.mk ([ta, tb].set 0 (stepM (ov 0 a) 64 ta [c0, c1]).1) (stepM (ov 0 a) 64 ta [c0, c1]).2 _ = _
          rw [h0 c1]
          have : n1 + n2 + 1 = n1 + 1 + n2 := by omega
          simp only [List.set_cons_zero, this]
        have k2 : pickM [ov 0 a] ⟨[ta], [c0, 4], n1⟩ 0 = ⟨[ta1], [d0, 4], n1 + 1⟩ := by
          rw [pickM_go (show stopM [ov 0 a] ⟨[ta], [c0, 4], n1⟩ (0 : Int).toNat = false from decide_eq_false hs)]
          show St.mk ([ta].set 0 (stepM (ov 0 a) 64 ta [c0, 4]).1) (stepM (ov 0 a) 64 ta [c0, 4]).2 _ = _
          rw [h0 4]
          simp only [List.set_cons_zero]
        rw [k1, k2]
        obtain ⟨x1, x2, x3, x4, x5, x6, l1, l2, x7⟩ := ih hp' ta1 tb d0 c1 (n1 + 1) n2
        exact ⟨x1, x2, x3, x4, x5, x6, by simp; omega, by simp; omega, x7⟩
    · have e1 : firsts (1 :: p) = firsts p := rfl
      have e2 : seconds (1 :: p) = 0 :: seconds p := rfl
      rw [e1, e2, List.foldl_cons, List.foldl_cons]
      by_cases hs : (ov 1 b).length ≤ tb.pos
      · have k1 : pickM [ov 0 a, ov 1 b] ⟨[ta, tb], [c0, c1], n1 + n2⟩ 1 = ⟨[ta, tb], [c0, c1], n1 + n2⟩ := pickM_stop (decide_eq_true hs)
        have k2 : pickM [ov 1 b] ⟨[tb], [3, c1], n2⟩ 0 = ⟨[tb], [3, c1], n2⟩ := pickM_stop (decide_eq_true hs)
        rw [k1, k2]
        obtain ⟨x1, x2, x3, x4, x5, x6, l1, l2, x7⟩ := ih hp' ta tb c0 c1 n1 n2
        exact ⟨x1, x2, x3, x4, x5, x6, by simp; omega, by simp; omega, x7⟩
      · obtain ⟨tb1, d1, h0⟩ := step_ov1 b 64 tb c1
        have k1 : pickM [ov 0 a, ov 1 b] ⟨[ta, tb], [c0, c1], n1 + n2⟩ 1 = ⟨[ta, tb1], [c0, d1], n1 + (n2 + 1)⟩ := by
          rw [pickM_go (show stopM [ov 0 a, ov 1 b] ⟨[ta, tb], [c0, c1], n1 + n2⟩ (1 : Int).toNat = false from decide_eq_false hs)]
          show St.mk ([ta, tb].set 1 (stepM (ov 1 b) 64 tb [c0, c1]).1) (stepM (ov 1 b) 64 tb [c0, c1]).2 _ = _
          rw [h0 c0]
          have : n1 + n2 + 1 = n1 + (n2 + 1) := by omega
          simp only [List.set_cons_succ, List.set_cons_zero, this]
        have k2 : pickM [ov 1 b] ⟨[tb], [3, c1], n2⟩ 0 = ⟨[tb1], [3, d1], n2 + 1⟩ := by
          rw [pickM_go (show stopM [ov 1 b] ⟨[tb], [3, c1], n2⟩ (0 : Int).toNat = false from decide_eq_false hs)]
          show St.mk ([tb].set 0 (stepM (ov 1 b) 64 tb [3, c1]).1) (stepM (ov 1 b) 64 tb [3, c1]).2 _ = _
          rw [h0 3]
          simp only [List.set_cons_zero]
        rw [k1, k2]
        obtain ⟨x1, x2, x3, x4, x5, x6, l1, l2, x7⟩ := ih hp' ta tb1 c0 d1 n1 (n2 + 1)
        exact ⟨x1, x2, x3, x4, x5, x6, by simp; omega, by simp; omega, x7⟩
theorem firsts_len (p : List Int) : (firsts p).length ≤ p.length := by simpa [firsts] using List.length_filter_le _ _
theorem seconds_len (p : List Int) : (seconds p).length ≤ p.length := by simpa [seconds] using List.length_filter_le _ _
theorem okTs_ov {a b : List Ins} (h : (chk [a, b] 2).2.2 = 0) : (chk [ov 0 a, ov 1 b] 2).2.2 = 0 ∧ (chk [ov 0 a] 2).2.2 = 0 ∧ (chk [ov 1 b] 2).2.2 = 0 := by
  have h := (chk_ok h).2.2.2
  have ha := h a (by simp)
  have hb := h b (by simp)
  have ka : (ov 0 a).length ≤ 4096 ∧ ∀ x ∈ ov 0 a, okI x (ov 0 a).length 2 = true := ⟨by rw [ov_len]; exact ha.1, fun x hx => by
    rw [ov_len]
    obtain ⟨y, hy, rfl⟩ := List.mem_map.1 hx
    exact okI_ov (.inl rfl) (ha.2 y hy)⟩
  have kb : (ov 1 b).length ≤ 4096 ∧ ∀ x ∈ ov 1 b, okI x (ov 1 b).length 2 = true := ⟨by rw [ov_len]; exact hb.1, fun x hx => by
    rw [ov_len]
    obtain ⟨y, hy, rfl⟩ := List.mem_map.1 hx
    exact okI_ov (.inr rfl) (hb.2 y hy)⟩
  refine ⟨chk_of ⟨by simp, by decide, by decide, fun l hl => ?_⟩, chk_of ⟨by simp, by decide, by decide, fun l hl => ?_⟩, chk_of ⟨by simp, by decide, by decide, fun l hl => ?_⟩⟩
  · simp at hl
    rcases hl with rfl | rfl
    · exact ka
    · exact kb
  · simp at hl; subst hl; exact ka
  · simp at hl; subst hl; exact kb
theorem apart_run {a b : List Ins} (h : (chk [a, b] 2).2.2 = 0) {p : List Int} (hp : ∀ x ∈ p, x = 0 ∨ x = 1) (hl : p.length ≤ 300) : ∃ (c0 c1 : Nat) (ra rb : List Nat) (da db : Bool) (n1 n2 : Nat), n1 ≤ 300 ∧ n2 ≤ 300 ∧
    runM [ov 0 a, ov 1 b] [3, 4] p = (⟨[c0, c1], [ra, rb], [da, db], n1 + n2⟩, 0) ∧ runM [ov 0 a] [3, 4] (firsts p) = (⟨[c0, 4], [ra], [da], n1⟩, 0) ∧ runM [ov 1 b] [3, 4] (seconds p) = (⟨[3, c1], [rb], [db], n2⟩, 0) := by
  obtain ⟨k1, k2, k3⟩ := okTs_ov h
  obtain ⟨ta, tb, c0, c1, m1, m2, l1, l2, f1, f2, f3⟩ := apart_fold a b p hp tk0 tk0 3 4 0 0
  have hf := firsts_len p
  have hs := seconds_len p
  refine ⟨c0, c1, ta.regs, tb.regs, decide ((ov 0 a).length ≤ ta.pos), decide ((ov 1 b).length ≤ tb.pos), m1, m2, by omega, by omega, ?_, ?_, ?_⟩
  · rw [runM_of k1 (by omega) (fun x hx => by have := hp x hx; simp; omega)]
    show (repOf _ (p.foldl _ ⟨[tk0, tk0], [3, 4], 0 + 0⟩), _) = _
    rw [f1]
    rfl
  · rw [runM_of k2 (by omega) (fun x hx => by simp [firsts] at hx; simp; omega)]
    show (repOf _ ((firsts p).foldl _ ⟨[tk0], [3, 4], 0⟩), _) = _
    rw [f2]
    rfl
  · rw [runM_of k3 (by omega) (fun x hx => by simp [seconds] at hx; simp; omega)]
    show (repOf _ ((seconds p).foldl _ ⟨[tk0], [3, 4], 0⟩), _) = _
    rw [f3]
    rfl

end Go.Proofs.Ytlcgighhiacnpaa
