/- Order words as digits of sixteen, slots moved in a list, which words may be; conditions: none. -/
import Derived.Test.YthplnecnagbedaaWords2
import Derived.Laws.BitsAllLaws
import Derived.Laws.CopyOwn
namespace Go.Proofs.Ythplnecnagbedaa
open Go.RowKit

/-- The lowest n digits of x, to the base sixteen. -/
def digs : Nat → Nat → List Nat
  | 0, _ => []
  | n + 1, x => x % 16 :: digs n (x / 16)
def undigs : List Nat → Nat
  | [] => 0
  | s :: l => s + 16 * undigs l

theorem digs_len (n x : Nat) : (digs n x).length = n := by
  induction n generalizing x with
  | zero => rfl
  | succ n ih => simp [digs, ih]
theorem digs_lt (n x : Nat) : ∀ d ∈ digs n x, d < 16 := by
  induction n generalizing x with
  | zero => intro d hd; cases hd
  | succ n ih =>
    intro d hd
    simp only [digs, List.mem_cons] at hd
    rcases hd with rfl | hd
    · omega
    · exact ih _ d hd
theorem digs_get (n x i : Nat) (hi : i < n) : (digs n x)[i]? = some (x / 16 ^ i % 16) := by
  induction n generalizing x i with
  | zero => omega
  | succ n ih =>
    cases i with
    | zero => simp [digs]
    | succ i =>
      simp only [digs, List.getElem?_cons_succ]
      rw [ih _ _ (by omega), Nat.div_div_eq_div_mul, Nat.pow_succ, Nat.mul_comm]
theorem undigs_digs (n x : Nat) : undigs (digs n x) = x % 16 ^ n := by
  induction n generalizing x with
  | zero => simp [digs, undigs, Nat.mod_one]
  | succ n ih =>
    simp only [digs, undigs, ih]
    rw [Nat.pow_succ, Nat.mul_comm (16 ^ n) 16, Nat.mod_mul]
theorem digs_undigs (l : List Nat) (h : ∀ d ∈ l, d < 16) : digs l.length (undigs l) = l := by
  induction l with
  | nil => rfl
  | cons s l ih =>
    have hs := h s (by simp)
    simp only [List.length_cons, digs, undigs]
    rw [show (s + 16 * undigs l) % 16 = s by omega, show (s + 16 * undigs l) / 16 = undigs l by omega, ih (fun d hd => h d (by simp [hd]))]
theorem undigs_lt (l : List Nat) (h : ∀ d ∈ l, d < 16) : undigs l < 16 ^ l.length := by
  induction l with
  | nil => simp [undigs]
  | cons s l ih =>
    have hs := h s (by simp)
    have := ih (fun d hd => h d (by simp [hd]))
    simp only [List.length_cons, undigs, Nat.pow_succ]
    omega
theorem undigs_append (l r : List Nat) : undigs (l ++ r) = undigs l + 16 ^ l.length * undigs r := by
  induction l with
  | nil => simp [undigs]
  | cons s l ih =>
    simp only [List.cons_append, undigs, ih, List.length_cons, Nat.pow_succ]
    rw [Nat.mul_add, ← Nat.mul_assoc, Nat.mul_comm 16 (16 ^ l.length)]
    omega

/-- A word as its parts: how many are used, the slots. -/
def partsL (x : Nat) : List Nat := digs 16 x
def slotsL (x : Nat) : List Nat := digs 15 (x / 16)
theorem partsL_eq (x : Nat) : partsL x = x % 16 :: slotsL x := rfl
def wordL (u : Nat) (l : List Nat) : Nat := undigs (u :: l)

theorem slots_len (x : Nat) : (slotsL x).length = 15 := digs_len _ _
theorem word_parts (x : Nat) (h : x < 18446744073709551616) : wordL (x % 16) (slotsL x) = x := by
  show undigs (digs 16 x) = x
  rw [undigs_digs]
  exact Nat.mod_eq_of_lt h
theorem slots_word {u : Nat} {l : List Nat} (hl : l.length = 15) (hu : u < 16) (h : ∀ d ∈ l, d < 16) : slotsL (wordL u l) = l ∧ wordL u l % 16 = u ∧ wordL u l < 18446744073709551616 := by
  have h' : ∀ d ∈ u :: l, d < 16 := fun d hd => by rcases List.mem_cons.1 hd with rfl | hd; exact hu; exact h d hd
  have h1 := digs_undigs _ h'
  have h2 := undigs_lt _ h'
  rw [List.length_cons, hl] at h1 h2
  have h3 : undigs (u :: l) % 16 :: digs 15 (undigs (u :: l) / 16) = u :: l := h1
  injection h3 with h3 h4
  exact ⟨h4, h3, h2⟩

/-- The slot at place f moved to place t. -/
def mvL (l : List Nat) (f t : Nat) : List Nat :=
  if f < t then l.take f ++ ((l.drop (f + 1)).take (t - f) ++ l.getD f 0 :: l.drop (t + 1)) else l.take t ++ (l.getD f 0 :: ((l.drop t).take (f - t) ++ l.drop (f + 1)))

theorem splice_mid {α : Type} (A B C D : List α) (h : B.length = C.length) : splice (A ++ (B ++ D)) A.length C = A ++ (C ++ D) := by
  unfold splice
  rw [List.take_left', ← List.append_assoc A B D, List.drop_left' (by simp [h])]
  rfl

/-- Cells of a list of numbers. -/
def pv (L : List Nat) : Array Value := (L.map fun x : Nat => Value.int .i64 x).toArray
theorem pv_size (L : List Nat) : (pv L).size = L.length := by simp [pv]
theorem pv_get {L : List Nat} {k x : Nat} (h : L[k]? = some x) : (pv L)[k]? = some (.int .i64 x) := by simp [pv, h]
theorem pv_set (L : List Nat) (k x : Nat) : (pv L).setIfInBounds k (.int .i64 x) = pv (L.set k x) := by simp [pv, List.map_set]
theorem pv_one (L : List Nat) : (pv L).all (·.oneCell') = true := by
  rw [Array.all_eq_true_iff_forall_mem]
  intro v hv
  simp only [pv, List.mem_toArray, List.mem_map] at hv
  obtain ⟨x, _, rfl⟩ := hv
  rfl

/-- The parts while they are being taken apart. -/
def partsAt (x j : Nat) : List Nat := x % 16 :: ((slotsL x).take j ++ List.replicate (15 - j) 0)
theorem partsAt_zero (x : Nat) : partsAt x 0 = x % 16 :: List.replicate 15 0 := rfl
theorem partsAt_end (x : Nat) : partsAt x 15 = partsL x := by
  rw [partsL_eq]; unfold partsAt
  rw [List.take_of_length_le (by rw [slots_len]; omega)]; simp
theorem partsAt_len (x j : Nat) (h : j ≤ 15) : (partsAt x j).length = 16 := by simp [partsAt, slots_len]; omega
theorem slots_get (x j : Nat) (h : j < 15) : (slotsL x)[j]? = some (x / 2 ^ (4 + 4 * j) % 16) := by
  unfold slotsL
  rw [digs_get _ _ _ h, Nat.div_div_eq_div_mul, show 16 * 16 ^ j = 2 ^ (4 + 4 * j) by rw [Nat.pow_add, Nat.pow_mul]]
theorem partsAt_step (x j : Nat) (h : j < 15) : (partsAt x j).set (1 + j) (x / 2 ^ (4 + 4 * j) % 16) = partsAt x (j + 1) := by
  have hg := slots_get x j h
  unfold partsAt
  rw [show 1 + j = j + 1 by omega, List.set_cons_succ]
  congr 1
  obtain ⟨hj, hg⟩ := List.getElem?_eq_some_iff.1 hg
  rw [List.set_append_right _ _ (by simp [slots_len]; omega), List.take_succ_eq_append_getElem hj, hg]
  have e : j - (List.take j (slotsL x)).length = 0 := by simp [slots_len]; omega
  rw [e, show 15 - j = (15 - (j + 1)) + 1 by omega, List.replicate_succ, List.set_cons_zero]
  simp

theorem and15 (x : Nat) (h : x < 18446744073709551616) : bits .and .u64 (x : Int) 15 = ((x % 16 : Nat) : Int) := by
  have := u64_and_nat x 15 h (by omega)
  rw [nat_mask4] at this
  exact this

/-- Words: the first digits of a list, joined. -/
theorem or_join (l : List Nat) (j d : Nat) (h : ∀ x ∈ l, x < 16) (hj : l.length = j) : undigs l ||| d * 2 ^ (4 * j) = undigs (l ++ [d]) := by
  subst hj
  have hl := undigs_lt l h
  have e : (16 : Nat) ^ l.length = 2 ^ (4 * l.length) := by rw [Nat.pow_mul]
  rw [e] at hl
  rw [Nat.or_comm, nat_join (4 * l.length) _ _ (Nat.mul_mod_left _ _) hl, undigs_append, e]
  simp only [undigs, Nat.mul_zero, Nat.add_zero]
  rw [Nat.mul_comm]; omega

end Go.Proofs.Ythplnecnagbedaa
