/- The document's machine in plain terms: it comes to what Run comes to; conditions: the tasks may be. -/
import Derived.Test.YtlcgighhiacnpaaWdLaws
namespace Go.Proofs.Ytlcgighhiacnpaa
open Go.RowKit

structure RS where
  places : List Nat
  regs : List (List Nat)
  done : List Bool
  C : List Nat
  steps : Nat
def RS.pl (s : RS) (t : Nat) : Nat := s.places.getD t 0
def RS.rg (s : RS) (t : Nat) : List Nat := s.regs.getD t []
def RS.dn (s : RS) (t : Nat) : Bool := s.done.getD t false
def stopR (T : List (List Ins)) (s : RS) (t : Nat) : Bool := s.dn t || decide ((T.getD t []).length ≤ s.pl t)
/-- The next instruction of a task. -/
def insR (T : List (List Ins)) (s : RS) (t : Nat) : Ins := (T.getD t []).getD (s.pl t) ins0
def doR (T : List (List Ins)) (s : RS) (t : Nat) : RS × Bool :=
  let x := insR T s t
  let P := s.places.set t (s.pl t + 1)
  let A := x.a.toNat
  let B := x.b.toNat
  let N := x.n.toNat
  if x.k = 1 then (⟨P, s.regs.set t ((s.rg t).set A (u64 x.n)), s.done, s.C, s.steps⟩, false)
  else if x.k = 2 then (⟨P, s.regs.set t ((s.rg t).set A ((s.rg t).getD B 0)), s.done, s.C, s.steps⟩, false)
  else if x.k = 3 then (⟨P, s.regs.set t ((s.rg t).set A (((s.rg t).getD B 0 + u64 x.n) % 18446744073709551616)), s.done, s.C, s.steps⟩, false)
  else if x.k = 4 then (⟨P, s.regs.set t ((s.rg t).set A (s.C.getD N 0)), s.done, s.C, s.steps⟩, true)
  else if x.k = 5 then (⟨P, s.regs, s.done, s.C.set N ((s.rg t).getD A 0), s.steps⟩, true)
  else if x.k = 6 then if s.C.getD N 0 = (s.rg t).getD A 0 then (⟨P, s.regs.set t ((s.rg t).set A 1), s.done, s.C.set N ((s.rg t).getD B 0), s.steps⟩, true) else (⟨P, s.regs.set t ((s.rg t).set A 0), s.done, s.C, s.steps⟩, true)
  else if x.k = 7 then (⟨if (s.rg t).getD A 0 = 0 then P.set t N else P, s.regs, s.done, s.C, s.steps⟩, false)
  else (⟨P, s.regs, s.done.set t true, s.C, s.steps⟩, false)
def stepR (T : List (List Ins)) : Nat → RS → Nat → RS
  | 0, s, _ => s
  | f + 1, s, t => if stopR T s t then s else
    match doR T s t with
    | (s', true) => s'
    | (s', false) => stepR T f s' t
def pickR (T : List (List Ins)) (s : RS) (p : Int) : RS := match stopR T s p.toNat with
  | true => s
  | false => stepR T 64 ⟨s.places, s.regs, s.done, s.C, s.steps + 1⟩ p.toNat
def rs0 (T : List (List Ins)) (C : List Nat) : RS := ⟨List.replicate T.length 0, List.replicate T.length (List.replicate 8 0), List.replicate T.length false, C, 0⟩
def runR (T : List (List Ins)) (C : List Nat) (P : List Int) : RS := P.foldl (pickR T) (rs0 T C)
def repR (T : List (List Ins)) (s : RS) : Rep := ⟨s.C, s.regs, (List.range T.length).map (stopR T s), s.steps⟩

/-- The document's machine and Run's row of tasks tell the same. -/
structure Alike (T : List (List Ins)) (s : RS) (S : St) : Prop where
  pl : s.places.length = T.length
  rl : s.regs.length = T.length
  dl : s.done.length = T.length
  tl : S.tks.length = T.length
  C : s.C = S.C
  st : s.steps = S.steps
  rg : ∀ t, t < T.length → s.rg t = (S.tks.getD t tk0).regs
  dn : ∀ t, t < T.length → s.dn t = true → (S.tks.getD t tk0).pos = (T.getD t []).length
  at_ : ∀ t, t < T.length → s.dn t = false → (S.tks.getD t tk0).pos = s.pl t
theorem alike0 (T : List (List Ins)) (C : List Nat) : Alike T (rs0 T C) (st0 T C) := by
  refine ⟨by simp [rs0], by simp [rs0], by simp [rs0], by simp [st0], rfl, rfl, fun t ht => ?_, fun t ht h => ?_, fun t ht h => ?_⟩
  · simp [rs0, RS.rg, st0, List.getD, ht, tk0]
  · simp [rs0, RS.dn, List.getD, ht] at h
  · simp [rs0, RS.pl, st0, List.getD, ht, tk0]
theorem Alike.stop {T : List (List Ins)} {s : RS} {S : St} (h : Alike T s S) {t : Nat} (ht : t < T.length) : stopR T s t = stopM T S t := by
  unfold stopR stopM
  cases hd : s.dn t with
  | true => rw [h.dn t ht hd]; simp
  | false => rw [h.at_ t ht hd]; simp
theorem getDB {l : List Bool} {i j : Nat} {v : Bool} (hi : i < l.length) : (l.set i v).getD j false = if i = j then v else l.getD j false := by
  by_cases e : i = j
  · subst e; simp [List.getD, hi]
  · simp [List.getD, List.getElem?_set, e]
theorem getDR {l : List (List Nat)} {i j : Nat} {v : List Nat} (hi : i < l.length) : (l.set i v).getD j [] = if i = j then v else l.getD j [] := by
  by_cases e : i = j
  · subst e; simp [List.getD, hi]
  · simp [List.getD, List.getElem?_set, e]
/-- What an instruction leaves, on both sides. -/
theorem Alike.upd {T : List (List Ins)} {s : RS} {S : St} (h : Alike T s S) {t : Nat} (ht : t < T.length) {r : List Nat} {p : Nat} {C : List Nat} (hd : s.dn t = false) :
    Alike T ⟨s.places.set t p, s.regs.set t r, s.done, C, s.steps⟩ ⟨S.tks.set t ⟨r, p⟩, C, S.steps⟩ := by
  have htl : t < S.tks.length := by rw [h.tl]; exact ht
  refine ⟨by simpa using h.pl, by simpa using h.rl, h.dl, by simpa using h.tl, rfl, h.st, fun q hq => ?_, fun q hq hdq => ?_, fun q hq hdq => ?_⟩
  · show (s.regs.set t r).getD q [] = ((S.tks.set t ⟨r, p⟩).getD q tk0).regs
    rw [getDR (by rw [h.rl]; exact ht), getD_setTk htl]
    by_cases e : t = q
    · rw [if_pos e, if_pos e]
    · rw [if_neg e, if_neg e]; exact h.rg q hq
  · show ((S.tks.set t ⟨r, p⟩).getD q tk0).pos = _
    rw [getD_setTk htl]
    by_cases e : t = q
    · subst e
      have : s.dn t = true := hdq
      rw [hd] at this; cases this
    · rw [if_neg e]; exact h.dn q hq hdq
  · show ((S.tks.set t ⟨r, p⟩).getD q tk0).pos = (s.places.set t p).getD q 0
    rw [getD_setTk htl, getD_setN (by rw [h.pl]; exact ht)]
    by_cases e : t = q
    · rw [if_pos e, if_pos e]
    · rw [if_neg e, if_neg e]; exact h.at_ q hq hdq
theorem Alike.end_ {T : List (List Ins)} {s : RS} {S : St} (h : Alike T s S) {t : Nat} (ht : t < T.length) {p : Nat} :
    Alike T ⟨s.places.set t p, s.regs, s.done.set t true, s.C, s.steps⟩ ⟨S.tks.set t ⟨(S.tks.getD t tk0).regs, (T.getD t []).length⟩, S.C, S.steps⟩ := by
  have htl : t < S.tks.length := by rw [h.tl]; exact ht
  refine ⟨by simpa using h.pl, h.rl, by simpa using h.dl, by simpa using h.tl, h.C, h.st, fun q hq => ?_, fun q hq hdq => ?_, fun q hq hdq => ?_⟩
  · show s.regs.getD q [] = ((S.tks.set t ⟨_, _⟩).getD q tk0).regs
    rw [getD_setTk htl]
    by_cases e : t = q
    · subst e; rw [if_pos rfl]; exact h.rg t ht
    · rw [if_neg e]; exact h.rg q hq
  · show ((S.tks.set t ⟨_, _⟩).getD q tk0).pos = _
    rw [getD_setTk htl]
    by_cases e : t = q
    · subst e; rw [if_pos rfl]
    · rw [if_neg e]
      have hq2 : (s.done.set t true).getD q false = true := hdq
      rw [getDB (by rw [h.dl]; exact ht), if_neg e] at hq2
      exact h.dn q hq hq2
  · show ((S.tks.set t ⟨_, _⟩).getD q tk0).pos = (s.places.set t p).getD q 0
    have hq2 : (s.done.set t true).getD q false = false := hdq
    rw [getDB (by rw [h.dl]; exact ht)] at hq2
    by_cases e : t = q
    · rw [if_pos e] at hq2; cases hq2
    · rw [if_neg e] at hq2
      rw [getD_setTk htl, getD_setN (by rw [h.pl]; exact ht), if_neg e, if_neg e]
      exact h.at_ q hq hq2
theorem set_selfR {l : List (List Nat)} {t : Nat} (h : t < l.length) : l.set t (l.getD t []) = l := by simp [List.getD, h]
/-- One instruction. -/
theorem Alike.do {T : List (List Ins)} {s : RS} {S : St} (h : Alike T s S) {t : Nat} (ht : t < T.length) (hs : stopM T S t = false) :
    Alike T (doR T s t).1 ⟨S.tks.set t (exec (T.getD t []) (S.tks.getD t tk0) S.C).1, (exec (T.getD t []) (S.tks.getD t tk0) S.C).2.1, S.steps⟩ ∧ (doR T s t).2 = (exec (T.getD t []) (S.tks.getD t tk0) S.C).2.2 := by
  have hd : s.dn t = false := by
    have := h.stop ht
    rw [hs] at this
    unfold stopR at this
    simp at this
    exact this.1
  have hp := h.at_ t ht hd
  have hr := h.rg t ht
  have hC := h.C
  have hx : insR T s t = (T.getD t []).getD (S.tks.getD t tk0).pos ins0 := by unfold insR; rw [hp]
  have hrl : t < s.regs.length := by rw [h.rl]; exact ht
  have hself : s.regs.set t (S.tks.getD t tk0).regs = s.regs := by rw [← hr]; exact set_selfR hrl
  have key : ∀ (r : List Nat) (p : Nat) (C : List Nat), Alike T ⟨s.places.set t p, s.regs.set t r, s.done, C, s.steps⟩ ⟨S.tks.set t ⟨r, p⟩, C, S.steps⟩ := fun r p C => h.upd ht hd
  have kend := h.end_ ht (p := s.pl t + 1)
  unfold doR exec
  rw [hx, hr, hC]
  generalize (T.getD t []).getD (S.tks.getD t tk0).pos ins0 = x
  rw [← hp] at kend ⊢
  generalize S.tks.getD t tk0 = tk at *
  obtain ⟨r, p⟩ := tk
  dsimp only at *
  by_cases h1 : x.k = 1
  · rw [if_pos h1, if_pos h1]; exact ⟨key _ _ _, rfl⟩
  rw [if_neg h1, if_neg h1]
  by_cases h2 : x.k = 2
  · rw [if_pos h2, if_pos h2]; exact ⟨key _ _ _, rfl⟩
  rw [if_neg h2, if_neg h2]
  by_cases h3 : x.k = 3
  · rw [if_pos h3, if_pos h3]; exact ⟨key _ _ _, rfl⟩
  rw [if_neg h3, if_neg h3]
  by_cases h4 : x.k = 4
  · rw [if_pos h4, if_pos h4]; exact ⟨key _ _ _, rfl⟩
  rw [if_neg h4, if_neg h4]
  by_cases h5 : x.k = 5
  · rw [if_pos h5, if_pos h5]
    have := key r (p + 1) (S.C.set x.n.toNat (r.getD x.a.toNat 0))
    rw [hself] at this
    exact ⟨this, rfl⟩
  rw [if_neg h5, if_neg h5]
  by_cases h6 : x.k = 6
  · rw [if_pos h6, if_pos h6]
    by_cases hc : S.C.getD x.n.toNat 0 = r.getD x.a.toNat 0
    · rw [if_pos hc, if_pos hc]; exact ⟨key _ _ _, rfl⟩
    · rw [if_neg hc, if_neg hc]; exact ⟨key _ _ _, rfl⟩
  rw [if_neg h6, if_neg h6]
  by_cases h7 : x.k = 7
  · rw [if_pos h7, if_pos h7]
    by_cases hz : r.getD x.a.toNat 0 = 0
    · rw [if_pos hz, if_pos hz, List.set_set]
      have := key r x.n.toNat S.C
      rw [hself] at this
      exact ⟨this, rfl⟩
    · rw [if_neg hz, if_neg hz]
      have := key r (p + 1) S.C
      rw [hself] at this
      exact ⟨this, rfl⟩
  rw [if_neg h7, if_neg h7]
  rw [hC] at kend
  exact ⟨kend, rfl⟩
theorem set_selfT {l : List Tk} {t : Nat} (h : t < l.length) : l.set t (l.getD t tk0) = l := by simp [List.getD, h]
theorem Alike.step {T : List (List Ins)} (f : Nat) {s : RS} {S : St} (h : Alike T s S) {t : Nat} (ht : t < T.length) :
    Alike T (stepR T f s t) ⟨S.tks.set t (stepM (T.getD t []) f (S.tks.getD t tk0) S.C).1, (stepM (T.getD t []) f (S.tks.getD t tk0) S.C).2, S.steps⟩ := by
  induction f generalizing s S with
  | zero =>
    have htl : t < S.tks.length := by rw [h.tl]; exact ht
    show Alike T s ⟨S.tks.set t (S.tks.getD t tk0), S.C, S.steps⟩
    rw [set_selfT htl]
    exact h
  | succ f ih =>
    have htl : t < S.tks.length := by rw [h.tl]; exact ht
    have hst := h.stop ht
    cases hs : stopM T S t with
    | true =>
      have hle : (T.getD t []).length ≤ (S.tks.getD t tk0).pos := of_decide_eq_true hs
      rw [stepM_succ, if_pos hle]
      have e : stepR T (f + 1) s t = s := by show (if _ then _ else _) = _; rw [hst, hs]; rfl
      rw [e]
      show Alike T s ⟨S.tks.set t (S.tks.getD t tk0), S.C, S.steps⟩
      rw [set_selfT htl]
      exact h
    | false =>
      have hle : ¬ (T.getD t []).length ≤ (S.tks.getD t tk0).pos := of_decide_eq_false hs
      obtain ⟨ha, hb⟩ := h.do ht hs
      rw [stepM_succ, if_neg hle]
      have e : stepR T (f + 1) s t = match doR T s t with
        | (s', true) => s'
        | (s', false) => stepR T f s' t := by show (if _ then _ else _) = _; rw [hst, hs]; rfl
      rw [e]
      generalize doR T s t = d at ha hb
      generalize exec (T.getD t []) (S.tks.getD t tk0) S.C = x at ha hb
      obtain ⟨s', b⟩ := d
      obtain ⟨tk', C', b'⟩ := x
      dsimp only at ha hb
      subst hb
      cases b with
      | true => exact ha
      | false =>
        have := ih ha
        dsimp only at this ⊢
        rw [getD_setTk htl, if_pos rfl, List.set_set] at this
        exact this
theorem Alike.pick {T : List (List Ins)} {s : RS} {S : St} (h : Alike T s S) {q : Nat} (hq : q < T.length) : Alike T (pickR T s (q : Int)) (pickM T S (q : Int)) := by
  have hst := h.stop hq
  cases hs : stopM T S q with
  | true =>
    rw [pickM_stop (by simpa using hs)]
    unfold pickR
    rw [Int.toNat_natCast, hst, hs]
    exact h
  | false =>
    rw [pickM_go (by simpa using hs)]
    unfold pickR
    rw [Int.toNat_natCast, hst, hs]
    have h' : Alike T ⟨s.places, s.regs, s.done, s.C, s.steps + 1⟩ ⟨S.tks, S.C, S.steps + 1⟩ := ⟨h.pl, h.rl, h.dl, h.tl, h.C, by rw [h.st], h.rg, h.dn, h.at_⟩
    exact h'.step 64 hq
theorem alike_fold {T : List (List Ins)} (P : List Int) (hP : ∀ x ∈ P, 0 ≤ x ∧ x < (T.length : Int)) {s : RS} {S : St} (h : Alike T s S) : Alike T (P.foldl (pickR T) s) (P.foldl (pickM T) S) := by
  induction P generalizing s S with
  | nil => exact h
  | cons x P ih =>
    rw [List.foldl_cons, List.foldl_cons]
    have hx := hP x (by simp)
    obtain ⟨q, rfl⟩ := Int.eq_ofNat_of_zero_le hx.1
    exact ih (fun y hy => hP y (by simp [hy])) (h.pick (by omega))
theorem repR_eq {T : List (List Ins)} {s : RS} {S : St} (h : Alike T s S) : repR T s = repOf T S := by
  unfold repR repOf
  have e1 : s.regs = regsTo S T.length := by
    refine List.ext_getElem (by rw [regsTo_len]; exact h.rl) fun i h1 h2 => ?_
    have hi : i < T.length := by rwa [regsTo_len] at h2
    have := h.rg i hi
    simp only [RS.rg, List.getD, h1, List.getElem?_eq_getElem, Option.getD_some] at this
    rw [this]
    simp [regsTo, List.getD]
  have e2 : (List.range T.length).map (stopR T s) = doneTo T S T.length := by
    unfold doneTo
    exact List.map_congr_left fun t ht => h.stop (List.mem_range.1 ht)
  rw [e1, e2, h.C, h.st]
/-- Run as the document has it. -/
def runD (T : List (List Ins)) (C : List Nat) (P : List Int) : Rep × Int :=
  if (chk T C.length).2.2 ≠ 0 then (rep0, (chk T C.length).2.2)
  else if 1048576 < P.length then (rep0, 2)
  else match P.any fun x => decide (x < 0 ∨ (T.length : Int) ≤ x) with
    | true => (rep0, 1)
    | false => (repR T (runR T C P), 0)
theorem runD_eq (T : List (List Ins)) (C : List Nat) (P : List Int) : runD T C P = runM T C P := by
  unfold runD runM
  split
  · rfl
  · split
    · rfl
    · cases h : P.any fun x => decide (x < 0 ∨ (T.length : Int) ≤ x) with
      | true => rfl
      | false =>
        have hP : ∀ x ∈ P, 0 ≤ x ∧ x < (T.length : Int) := fun x hx => by
          have := List.any_eq_false.1 h x hx
          simp only [decide_eq_true_eq] at this
          omega
        dsimp only
        exact congrArg (fun R => (R, (0 : Int))) (repR_eq (alike_fold P hP (alike0 T C)))

end Go.Proofs.Ytlcgighhiacnpaa
