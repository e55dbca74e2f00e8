/- What Run comes to: in plain terms, and how its row of tasks and its report lie; conditions: none. -/
import Derived.Test.YtlcgighhiacnpaaWdMake
namespace Go.Proofs.Ytlcgighhiacnpaa
open Go.RowKit

def tk0 : Tk := ⟨List.replicate 8 0, 0⟩
structure St where
  tks : List Tk
  C : List Nat
  steps : Nat
def stopM (T : List (List Ins)) (s : St) (t : Nat) : Bool := decide ((T.getD t []).length ≤ (s.tks.getD t tk0).pos)
def pickM (T : List (List Ins)) (s : St) (p : Int) : St :=
  match stopM T s p.toNat with
  | true => s
  | false => ⟨s.tks.set p.toNat (stepM (T.getD p.toNat []) 64 (s.tks.getD p.toNat tk0) s.C).1, (stepM (T.getD p.toNat []) 64 (s.tks.getD p.toNat tk0) s.C).2, s.steps + 1⟩
def st0 (T : List (List Ins)) (C : List Nat) : St := ⟨List.replicate T.length tk0, C, 0⟩
def runS (T : List (List Ins)) (C : List Nat) (P : List Int) : St := P.foldl (pickM T) (st0 T C)
structure Rep where
  cells : List Nat
  regs : List (List Nat)
  done : List Bool
  steps : Nat
def doneTo (T : List (List Ins)) (s : St) (n : Nat) : List Bool := (List.range n).map (stopM T s)
def regsTo (s : St) (n : Nat) : List (List Nat) := (List.range n).map fun t => (s.tks.getD t tk0).regs
def repOf (T : List (List Ins)) (s : St) : Rep := ⟨s.C, regsTo s T.length, doneTo T s T.length, s.steps⟩
def rep0 : Rep := ⟨[], [], [], 0⟩
def runM (T : List (List Ins)) (C : List Nat) (P : List Int) : Rep × Int :=
  if (chk T C.length).2.2 ≠ 0 then (rep0, (chk T C.length).2.2)
  else if 1048576 < P.length then (rep0, 2)
  else match P.any fun x => decide (x < 0 ∨ (T.length : Int) ≤ x) with
    | true => (rep0, 1)
    | false => (repOf T (runS T C P), 0)

theorem regsTo_succ (s : St) (n : Nat) : regsTo s (n + 1) = regsTo s n ++ [(s.tks.getD n tk0).regs] := by simp [regsTo, List.range_succ]
theorem doneTo_succ (T : List (List Ins)) (s : St) (n : Nat) : doneTo T s (n + 1) = doneTo T s n ++ [stopM T s n] := by simp [doneTo, List.range_succ]
theorem regsTo_len (s : St) (n : Nat) : (regsTo s n).length = n := by simp [regsTo]
theorem doneTo_len (T : List (List Ins)) (s : St) (n : Nat) : (doneTo T s n).length = n := by simp [doneTo]

/-- The tasks of a row, each with its head. -/
def RowAt (cs : Array Value) (n : Nat) (H : Nat → Value) (tks : List Tk) : Prop := cs.size = n * 10 ∧ tks.length = n ∧ ∀ t, t < n → TkAt cs (t * 10) (H t) (tks.getD t tk0)
theorem TkAt.out {cs cs' : Array Value} {o o' : Nat} {hd : Value} {tk : Tk} (h : TkAt cs o' hd tk) (hs : SameOut cs cs' o) (ho : o' + 10 ≤ o ∨ o + 10 ≤ o') : TkAt cs' o' hd tk :=
  ⟨(hs.2 _ (by omega)).trans h.hd, (hs.2 _ (by omega)).trans h.pos, fun r hr => (hs.2 _ (by omega)).trans (h.reg r hr), h.len, h.lt⟩
theorem TkAt.setHd {cs : Array Value} {o : Nat} {hd : Value} {tk : Tk} (h : TkAt cs o hd tk) (x : Value) : TkAt (cs.setIfInBounds o x) o x tk := by
  have hz := h.lt_size
  refine ⟨?_, ?_, fun k hk => ?_, h.len, h.lt⟩
  · rw [Array.getElem?_setIfInBounds, if_pos rfl, if_pos (by omega)]
  · rw [Array.getElem?_setIfInBounds, if_neg (by omega)]; exact h.pos
  · rw [Array.getElem?_setIfInBounds, if_neg (by omega)]; exact h.reg k hk
theorem getD_setTk {l : List Tk} {i j : Nat} {v : Tk} (hi : i < l.length) : (l.set i v).getD j tk0 = if i = j then v else l.getD j tk0 := by
  by_cases e : i = j
  · subst e; simp [List.getD, hi]
  · simp [List.getD, List.getElem?_set, e]
theorem RowAt.upd {cs cs' : Array Value} {n : Nat} {H : Nat → Value} {tks : List Tk} (h : RowAt cs n H tks) {t : Nat} (ht : t < n) {tk : Tk} (h1 : TkAt cs' (t * 10) (H t) tk) (h2 : SameOut cs cs' (t * 10)) : RowAt cs' n H (tks.set t tk) := by
  refine ⟨h2.1.trans h.1, by simpa using h.2.1, fun k hk => ?_⟩
  rw [getD_setTk (by rw [h.2.1]; exact ht)]
  by_cases e : t = k
  · subst e; rw [if_pos rfl]; exact h1
  · rw [if_neg e]; exact (h.2.2 k hk).out h2 (by omega)
theorem RowAt.head {cs : Array Value} {n : Nat} {H : Nat → Value} {tks : List Tk} (h : RowAt cs n H tks) {t : Nat} (x : Value) : RowAt (cs.setIfInBounds (t * 10) x) n (fun k => if k = t then x else H k) tks := by
  refine ⟨by simpa using h.1, h.2.1, fun k hk => ?_⟩
  by_cases e : k = t
  · subst e; show TkAt _ _ (if k = k then x else H k) _; rw [if_pos rfl]; exact (h.2.2 k hk).setHd x
  · show TkAt _ _ (if k = t then x else H k) _
    rw [if_neg e]
    exact (h.2.2 k hk).out ((SameOut.refl cs (t * 10)).set (Nat.le_refl _) (by omega) x) (by omega)
def zero56 : List Value := .slice none 0 0 :: List.replicate 9 (.int .u64 0)
def zTask : Array Value := #[.slice none 0 0, .int .u64 0, .int .u64 0, .int .u64 0, .int .u64 0, .int .u64 0, .int .u64 0, .int .u64 0, .int .u64 0, .int .i64 0]
theorem rowAt_made (n : Nat) : RowAt (madeCells zTask (n * 10)) n (fun _ => .slice none 0 0) (List.replicate n tk0) := by
  have hg : ∀ t k, t < n → k < 10 → (madeCells zTask (n * 10))[t * 10 + k]? = zTask[k]? := fun t k ht hk => by
    have h1 : t * 10 + k < n * 10 := by omega
    have h2 : (t * 10 + k) % 10 = k := by omega
    have h3 : zTask.size = 10 := rfl
    unfold madeCells
    rw [h3]
    simp only [Array.getElem?_map, Array.getElem?_range, h1, if_true, Option.map_some, h2]
    rw [getElem!_pos zTask k (by rw [h3]; exact hk), Array.getElem?_eq_getElem (by rw [h3]; exact hk)]
  refine ⟨size_madeCells _ _, by simp, fun t ht => ?_⟩
  have e : (List.replicate n tk0).getD t tk0 = tk0 := by simp [List.getD, ht]
  rw [e]
  refine ⟨(hg t 0 ht (by omega)).trans rfl, (hg t 9 ht (by omega)).trans rfl, fun r hr => ?_, rfl, fun r => ?_⟩
  · have := hg t (1 + r) ht (by omega)
    rw [← Nat.add_assoc] at this
    rw [this]
    have hr' : r = 0 ∨ r = 1 ∨ r = 2 ∨ r = 3 ∨ r = 4 ∨ r = 5 ∨ r = 6 ∨ r = 7 := by omega
    rcases hr' with rfl | rfl | rfl | rfl | rfl | rfl | rfl | rfl <;> rfl
  · by_cases h : r < 8
    · have hr' : r = 0 ∨ r = 1 ∨ r = 2 ∨ r = 3 ∨ r = 4 ∨ r = 5 ∨ r = 6 ∨ r = 7 := by omega
      rcases hr' with rfl | rfl | rfl | rfl | rfl | rfl | rfl | rfl <;> decide
    · have : tk0.regs.getD r 0 = 0 := by rw [List.getD, List.getElem?_eq_none (by show 8 ≤ r; omega)]; rfl
      rw [this]; decide

theorem rdT_choose {w : World} {B : Nat} {ao : Option Addr} {T : List (List Ins)} (h : RdT w B ao T) : ∃ (at_ : Nat → Option Addr) (ct ln : Nat → Nat), (∀ t, ln t = (T.getD t []).length) ∧ ∀ t, t < T.length → ∃ b off, ao = some ⟨b, off, none⟩ ∧ b < B ∧ w.cell? ⟨b, off + t, none⟩ = some (.slice (at_ t) (ln t) (ct t)) ∧
    ln t ≤ ct t ∧ ct t ≤ 9223372036854775807 ∧ RdI w B (at_ t) (T.getD t []) := by
  have : ∀ t, ∃ p : Option Addr × Nat, t < T.length → ∃ b off, ao = some ⟨b, off, none⟩ ∧ b < B ∧ w.cell? ⟨b, off + t, none⟩ = some (.slice p.1 (T.getD t []).length p.2) ∧
      (T.getD t []).length ≤ p.2 ∧ p.2 ≤ 9223372036854775807 ∧ RdI w B p.1 (T.getD t []) := fun t => by
    by_cases ht : t < T.length
    · obtain ⟨b, off, a, c, r⟩ := h t ht
      exact ⟨(a, c), fun _ => ⟨b, off, r⟩⟩
    · exact ⟨(none, 0), fun h => absurd h ht⟩
  obtain ⟨f, hf⟩ := Classical.axiomOfChoice this
  exact ⟨fun t => (f t).1, fun t => (f t).2, fun t => (T.getD t []).length, fun _ => rfl, hf⟩

/-- A report as it lies. -/
structure RepAt (B : Nat) (w : World) (cv rv dv : Value) (R : Rep) : Prop where
  cells : OwnU B w cv R.cells
  regs : w.ownsRow B 47 8 rv R.regs.length (R.regs.flatMap uvl)
  rlen : ∀ l ∈ R.regs, l.length = 8 ∧ ∀ k, l.getD k 0 < 18446744073709551616
  done : w.ownsRow B 4 1 dv R.done.length (R.done.map .bool)
  steps : R.steps ≤ 1048576
def repV (cv rv dv : Value) (R : Rep) : Value := .agg #[cv, rv, dv, .int .i64 R.steps]
def RunPost (w : World) (r : Rep × Int) (e : Ending) (w' : World) : Prop := ∃ cv rv dv, e = .returned (.tuple #[repV cv rv dv r.1, .int .i64 r.2]) ∧ RepAt w.heap.size w' cv rv dv r.1 ∧ Below w.heap.size w w'
theorem repAt_nil (B : Nat) (w : World) : RepAt B w (.slice none 0 0) (.slice none 0 0) (.slice none 0 0) rep0 := ⟨⟨World.ownsRow_nil _ _ _ _, fun k => by simp [rep0]⟩, World.ownsRow_nil _ _ _ _, by simp [rep0], World.ownsRow_nil _ _ _ _, by decide⟩

end Go.Proofs.Ytlcgighhiacnpaa
