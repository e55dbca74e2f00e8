/- A slot moved there and back; what Insert and Remove of a word tell; conditions: none. -/
import Derived.Test.YthplnecnagbedaaNtMove
import Derived.Test.YthplnecnagbedaaNtCheckPure
namespace Go.Proofs.Ythplnecnagbedaa
open Go.RowKit

theorem mv_up (A B C : List Nat) (x : Nat) : mvL (A ++ x :: (B ++ C)) A.length (A.length + B.length) = A ++ (B ++ x :: C) := by
  have e1 : (A ++ x :: (B ++ C)).getD A.length 0 = x := by simp [List.getD]
  have e2 : (A ++ x :: (B ++ C)).take A.length = A := by simp
  have e3 : (A ++ x :: (B ++ C)).drop (A.length + 1) = B ++ C := by
    rw [show A ++ x :: (B ++ C) = (A ++ [x]) ++ (B ++ C) by simp]; exact List.drop_left' (by simp)
  unfold mvL
  rw [e1]
  split
  · rw [e2, e3, show A.length + B.length - A.length = B.length by omega, List.take_left',
      show (A ++ x :: (B ++ C)).drop (A.length + B.length + 1) = C by
        rw [show A ++ x :: (B ++ C) = (A ++ [x] ++ B) ++ C by simp]; exact List.drop_left' (by simp; omega)]
    rfl
  · have hb : B = [] := List.eq_nil_of_length_eq_zero (by omega)
    subst hb
    simp
theorem mv_dn (A B C : List Nat) (x : Nat) : mvL (A ++ (B ++ x :: C)) (A.length + B.length) A.length = A ++ x :: (B ++ C) := by
  have e1 : (A ++ (B ++ x :: C)).getD (A.length + B.length) 0 = x := by
    rw [← List.append_assoc, ← List.length_append]; simp [List.getD]
  unfold mvL
  rw [e1, if_neg (by omega), List.take_left', List.drop_left', show A.length + B.length - A.length = B.length by omega, List.take_left']
  · rw [show (A ++ (B ++ x :: C)).drop (A.length + B.length + 1) = C by
      rw [show A ++ (B ++ x :: C) = (A ++ B ++ [x]) ++ C by simp]; exact List.drop_left' (by simp; omega)]
  · rfl
  · rfl
  · rfl
theorem cut_up {l : List Nat} {f t : Nat} (h1 : f ≤ t) (h2 : t < l.length) : ∃ A B C x, l = A ++ x :: (B ++ C) ∧ A.length = f ∧ A.length + B.length = t := by
  refine ⟨l.take f, (l.drop (f + 1)).take (t - f), l.drop (t + 1), l[f], ?_, by simp; omega, by simp; omega⟩
  rw [show l.drop (t + 1) = (l.drop (f + 1)).drop (t - f) by rw [List.drop_drop]; congr 1; omega, List.take_append_drop, ← List.drop_eq_getElem_cons (by omega), List.take_append_drop]
theorem cut_dn {l : List Nat} {f t : Nat} (h1 : t ≤ f) (h2 : f < l.length) : ∃ A B C x, l = A ++ (B ++ x :: C) ∧ A.length = t ∧ A.length + B.length = f := by
  refine ⟨l.take t, (l.drop t).take (f - t), l.drop (f + 1), l[f], ?_, by simp; omega, by simp; omega⟩
  rw [show l[f] :: l.drop (f + 1) = (l.drop t).drop (f - t) by rw [List.drop_drop, show t + (f - t) = f by omega, List.drop_eq_getElem_cons h2], List.take_append_drop, List.take_append_drop]

theorem mv_perm {l : List Nat} {f t : Nat} (h1 : f < l.length) (h2 : t < l.length) : (mvL l f t).Perm l := by
  rcases Nat.le_total f t with h | h
  · obtain ⟨A, B, C, x, rfl, rfl, rfl⟩ := cut_up h h2
    rw [mv_up]
    exact (List.perm_middle (l₁ := B) (l₂ := C) (a := x)).append_left A
  · obtain ⟨A, B, C, x, rfl, rfl, rfl⟩ := cut_dn h h1
    rw [mv_dn]
    exact (List.perm_middle (l₁ := B) (l₂ := C) (a := x)).symm.append_left A
theorem mv_len {l : List Nat} {f t : Nat} (h1 : f < l.length) (h2 : t < l.length) : (mvL l f t).length = l.length := (mv_perm h1 h2).length_eq
theorem mv_back {l : List Nat} {f t : Nat} (h1 : f < l.length) (h2 : t < l.length) : mvL (mvL l f t) t f = l := by
  rcases Nat.le_total f t with h | h
  · obtain ⟨A, B, C, x, rfl, rfl, rfl⟩ := cut_up h h2
    rw [mv_up, mv_dn]
  · obtain ⟨A, B, C, x, rfl, rfl, rfl⟩ := cut_dn h h1
    rw [mv_dn, mv_up]
theorem mv_get {l : List Nat} {f t : Nat} (h1 : f < l.length) (h2 : t < l.length) : (mvL l f t).getD t 0 = l.getD f 0 := by
  rcases Nat.le_total f t with h | h
  · obtain ⟨A, B, C, x, rfl, rfl, rfl⟩ := cut_up h h2
    rw [mv_up, ← List.append_assoc, ← List.length_append]; simp [List.getD]
  · obtain ⟨A, B, C, x, rfl, rfl, rfl⟩ := cut_dn h h1
    rw [mv_dn, ← List.append_assoc, ← List.length_append]; simp [List.getD]
theorem okL_mv {l : List Nat} {f t : Nat} (h1 : f < l.length) (h2 : t < l.length) (h : OkL l) : OkL (mvL l f t) :=
  ⟨(mv_perm h1 h2).nodup_iff.2 h.1, fun s hs => h.2 s ((mv_perm h1 h2).mem_iff.1 hs)⟩

/-- What a put of a slot at a place makes of a word: the word, the slot, the error. -/
def insOut (x : Nat) (p : Int) : Nat × Nat × Int :=
  if OkL (slotsL x) then if x % 16 = 15 then (0, 0, 120) else if p < 0 ∨ ((x % 16 : Nat) : Int) < p then (0, 0, 1) else (wordL (x % 16 + 1) (mvL (slotsL x) (x % 16) p.toNat), (slotsL x).getD (x % 16) 0, 0) else (0, 0, 4)
def remOut (x : Nat) (p : Int) : Nat × Nat × Int :=
  if OkL (slotsL x) then if p < 0 ∨ ((x % 16 : Nat) : Int) ≤ p then (0, 0, 1) else (wordL (x % 16 - 1) (mvL (slotsL x) p.toNat (x % 16 - 1)), (slotsL x).getD p.toNat 0, 0) else (0, 0, 4)
def res3 (r : Nat × Nat × Int) : Value := .tuple #[.int .u64 r.1, .int .i64 r.2.1, .int .i64 r.2.2]

theorem ins_good {x : Nat} {p : Int} (h : (insOut x p).2.2 = 0) : ∃ k : Nat, p = k ∧ k ≤ x % 16 ∧ x % 16 < 15 ∧ OkL (slotsL x) ∧ insOut x p = (wordL (x % 16 + 1) (mvL (slotsL x) (x % 16) k), (slotsL x).getD (x % 16) 0, 0) := by
  unfold insOut at h ⊢
  have hu : x % 16 < 16 := Nat.mod_lt _ (by omega)
  split at h
  · rename_i hok
    split at h
    · cases h
    · split at h
      · cases h
      · obtain ⟨k, rfl⟩ := Int.eq_ofNat_of_zero_le (show 0 ≤ p by omega)
        refine ⟨k, rfl, by omega, by omega, hok, ?_⟩
        rw [if_pos hok, if_neg (by omega), if_neg (by omega)]; rfl
  · cases h
theorem ins_bad {x : Nat} {p : Int} (h : (insOut x p).2.2 ≠ 0) : (insOut x p).1 = 0 ∧ (insOut x p).2.1 = 0 := by
  unfold insOut at h ⊢
  split
  · split
    · exact ⟨rfl, rfl⟩
    · split
      · exact ⟨rfl, rfl⟩
      · rename_i h1 h2 h3
        rw [if_pos h1, if_neg h2, if_neg h3] at h
        exact absurd rfl h
  · exact ⟨rfl, rfl⟩
/-- What was put in: the word's parts; taken out again it is as it was. -/
theorem ins_rem {x k : Nat} (hx : x < 18446744073709551616) (hk : k ≤ x % 16) (hu : x % 16 < 15) (hok : OkL (slotsL x)) :
    let a := wordL (x % 16 + 1) (mvL (slotsL x) (x % 16) k)
    slotsL a = mvL (slotsL x) (x % 16) k ∧ a % 16 = x % 16 + 1 ∧ a < 18446744073709551616 ∧ OkL (slotsL a) ∧ remOut a k = (x, (slotsL x).getD (x % 16) 0, 0) := by
  have hl := slots_len x
  have h1 : x % 16 < (slotsL x).length := by omega
  have h2 : k < (slotsL x).length := by omega
  have hok' := okL_mv h1 h2 hok
  obtain ⟨e1, e2, e3⟩ := slots_word (u := x % 16 + 1) (l := mvL (slotsL x) (x % 16) k) (by rw [mv_len h1 h2, hl]) (by omega) (fun d hd => Nat.lt_trans (hok'.2 d hd) (by omega))
  refine ⟨e1, e2, e3, by rw [e1]; exact hok', ?_⟩
  unfold remOut
  rw [e1, e2, if_pos hok', if_neg (by omega), Int.toNat_natCast, Nat.add_sub_cancel, mv_back h1 h2, mv_get h1 h2, word_parts x hx]

end Go.Proofs.Ythplnecnagbedaa
