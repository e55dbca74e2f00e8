/- Which order words may be: all fifteen slots, each once; told by a set of bits and by going through; conditions: none. -/
import Derived.Test.YthplnecnagbedaaNtPure
namespace Go.Proofs.Ythplnecnagbedaa
open Go.RowKit

/-- A list without doubles inside a list that is no longer is that list in another order. -/
theorem perm_of_sub {l r : List Nat} (hn : l.Nodup) (hs : ∀ x ∈ l, x ∈ r) (hl : r.length ≤ l.length) : l.Perm r := by
  induction l generalizing r with
  | nil =>
    have : r = [] := List.eq_nil_of_length_eq_zero (by simpa using hl)
    subst this; exact List.Perm.refl _
  | cons x t ih =>
    have hx : x ∈ r := hs x (by simp)
    have hn' := List.nodup_cons.1 hn
    have he : (r.erase x).length = r.length - 1 := List.length_erase_of_mem hx
    refine ((ih hn'.2 (fun y hy => ?_) ?_).cons x).trans (List.perm_cons_erase hx).symm
    · have hne : y ≠ x := fun e => hn'.1 (e ▸ hy)
      exact (List.mem_erase_of_ne hne).2 (hs y (by simp [hy]))
    · simp only [List.length_cons] at hl
      omega

/-- The order word may be: all slots, each once. -/
def OkL (l : List Nat) : Prop := l.Nodup ∧ ∀ s ∈ l, s < 15
instance (l : List Nat) : Decidable (OkL l) := inferInstanceAs (Decidable (_ ∧ _))

theorem okL_iff {l : List Nat} (hl : l.length = 15) : OkL l ↔ ∀ i, i ∈ l ↔ i < 15 := by
  constructor
  · rintro ⟨h1, h2⟩ i
    have hp := perm_of_sub (r := List.range 15) h1 (fun x hx => List.mem_range.2 (h2 x hx)) (by simp [hl])
    rw [hp.mem_iff, List.mem_range]
  · intro h
    have hp := perm_of_sub (l := List.range 15) (r := l) List.nodup_range (fun x hx => (h x).2 (List.mem_range.1 hx)) (by simp [hl])
    exact ⟨hp.nodup_iff.1 List.nodup_range, fun s hs => (h s).1 hs⟩

def orB (l : List Nat) : Nat := l.foldl (fun a s => a ||| 2 ^ s) 0
theorem orB_snoc (l : List Nat) (s : Nat) : orB (l ++ [s]) = orB l ||| 2 ^ s := by simp [orB]
theorem orB_bit (l : List Nat) (i : Nat) : (orB l).testBit i = decide (i ∈ l) := by
  suffices h : ∀ a, (l.foldl (fun a s => a ||| 2 ^ s) a).testBit i = (a.testBit i || decide (i ∈ l)) by
    have := h 0; simpa [orB] using this
  induction l with
  | nil => simp
  | cons s l ih =>
    intro a
    rw [List.foldl_cons, ih, Nat.testBit_or, Nat.testBit_two_pow, Bool.or_assoc]
    congr 1
    by_cases e : s = i
    · subst e; simp
    · simp [e, Ne.symm e]
theorem orB_lt (l : List Nat) (h : ∀ s ∈ l, s < 16) : orB l < 2 ^ 16 := by
  apply Nat.lt_pow_two_of_testBit
  intro i hi
  rw [orB_bit, decide_eq_false_iff_not]
  intro hm
  have := h i hm
  omega
theorem orB_ok {l : List Nat} (hl : l.length = 15) : orB l = 32767 ↔ OkL l := by
  have e : (32767 : Nat) = 2 ^ 15 - 1 := by decide
  rw [okL_iff hl]
  constructor
  · intro h i
    have := orB_bit l i
    rw [h, e, Nat.testBit_two_pow_sub_one] at this
    exact (decide_eq_decide.1 this).symm
  · intro h
    apply Nat.eq_of_testBit_eq
    intro i
    rw [orB_bit, e, Nat.testBit_two_pow_sub_one]
    exact decide_eq_decide.2 (h i)

/-- The check's answer. -/
def chkE (x : Nat) : Int := if OkL (slotsL x) then 0 else 4

theorem okL_take {l : List Nat} (h : OkL l) (j : Nat) : OkL (l.take j) := ⟨h.1.sublist (List.take_sublist _ _), fun s hs => h.2 s (List.mem_of_mem_take hs)⟩
theorem okL_step {l : List Nat} {j : Nat} (hj : j < l.length) (h : OkL (l.take j)) (h1 : l[j] < 15) (h2 : l[j] ∉ l.take j) : OkL (l.take (j + 1)) := by
  rw [List.take_succ_eq_append_getElem hj]
  refine ⟨?_, fun s hs => ?_⟩
  · rw [List.nodup_append]
    refine ⟨h.1, by simp, fun a ha b hb e => ?_⟩
    simp only [List.mem_singleton] at hb
    subst hb; subst e; exact h2 ha
  · rcases List.mem_append.1 hs with hs | hs
    · exact h.2 s hs
    · simp only [List.mem_singleton] at hs; subst hs; exact h1
theorem okL_big {l : List Nat} {j : Nat} (hj : j < l.length) (h1 : ¬ l[j] < 15) : ¬ OkL l := fun h => h1 (h.2 _ (List.getElem_mem hj))
theorem okL_twice {l : List Nat} {j : Nat} (hj : j < l.length) (h2 : l[j] ∈ l.take j) : ¬ OkL l := fun h => by
  have := (okL_take h (j + 1)).1
  rw [List.take_succ_eq_append_getElem hj, List.nodup_append] at this
  exact this.2.2 _ h2 _ (by simp) rfl

/-- What has been seen. -/
def seenV (l : List Nat) : List Value := (List.range 16).map fun k => Value.bool (decide (k ∈ l))
theorem seenV_len (l : List Nat) : (seenV l).length = 16 := by simp [seenV]
theorem seenV_get (l : List Nat) {k : Nat} (h : k < 16) : (seenV l)[k]? = some (.bool (decide (k ∈ l))) := by simp [seenV, h]
theorem seenV_set (l : List Nat) {s : Nat} (h : s < 16) : (seenV l).set s (.bool true) = seenV (l ++ [s]) := by
  apply List.ext_getElem?
  intro k
  by_cases hk : k < 16
  · rw [seenV_get _ hk, List.getElem?_set, seenV_len]
    by_cases e : s = k
    · subst e; simp [h]
    · rw [if_neg e, seenV_get _ hk]
      have : k ≠ s := fun h => e h.symm
      simp [this]
  · rw [List.getElem?_eq_none (by rw [List.length_set, seenV_len]; omega), List.getElem?_eq_none (by rw [seenV_len]; omega)]

end Go.Proofs.Ythplnecnagbedaa
