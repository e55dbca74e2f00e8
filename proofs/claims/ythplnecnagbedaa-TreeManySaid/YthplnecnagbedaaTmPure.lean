/- Plain laws of TreeMany: six digits and their order; which numbers stand in the tree; conditions: numbers below a million. -/
import Derived.Test.YthplnecnagbedaaTrScanP
import Derived.Test.YthplnecnagbedaaNdHalf
namespace Go.Proofs.Ythplnecnagbedaa

def dig : Nat → Nat → List UInt8
  | 0, _ => []
  | w + 1, n => UInt8.ofNat (48 + n / 10 ^ w) :: dig w (n % 10 ^ w)
def numB (n : Nat) : ByteArray := ⟨(dig 6 n).toArray⟩
theorem u8_lt {x y : Nat} (hx : x < 256) (hy : y < 256) : (UInt8.ofNat x < UInt8.ofNat y) ↔ x < y := by
  rw [UInt8.lt_iff_toNat_lt, UInt8.toNat_ofNat', UInt8.toNat_ofNat', Nat.mod_eq_of_lt (by omega), Nat.mod_eq_of_lt (by omega)]
theorem u8_eq {x y : Nat} (hx : x < 256) (hy : y < 256) : (UInt8.ofNat x = UInt8.ofNat y) ↔ x = y := by
  rw [← UInt8.toNat_inj, UInt8.toNat_ofNat', UInt8.toNat_ofNat', Nat.mod_eq_of_lt (by omega), Nat.mod_eq_of_lt (by omega)]
theorem dig_less : ∀ (w a b : Nat), a < 10 ^ w → b < 10 ^ w → (Op.bytesLess (dig w a) (dig w b) = true ↔ a < b) := by
  intro w
  induction w with
  | zero => intro a b ha hb; simp [dig, Op.bytesLess]; omega
  | succ w ih =>
    intro a b ha hb
    have hP : 0 < 10 ^ w := Nat.pow_pos (by omega)
    rw [Nat.pow_succ] at ha hb
    have ih' := ih (a % 10 ^ w) (b % 10 ^ w) (Nat.mod_lt _ hP) (Nat.mod_lt _ hP)
    have ea := Nat.div_add_mod a (10 ^ w)
    have eb := Nat.div_add_mod b (10 ^ w)
    have la := Nat.mod_lt a hP
    have lb := Nat.mod_lt b hP
    have qa : a / 10 ^ w < 10 := Nat.div_lt_of_lt_mul ha
    have qb : b / 10 ^ w < 10 := Nat.div_lt_of_lt_mul hb
    simp only [dig, Op.bytesLess, Bool.or_eq_true, decide_eq_true_eq, Bool.and_eq_true, beq_iff_eq]
    rw [ih', u8_lt (by omega) (by omega), u8_eq (by omega) (by omega)]
    generalize 10 ^ w = P at *
    generalize a / P = x at *
    generalize b / P = y at *
    generalize a % P = r at *
    generalize b % P = s at *
    subst ea eb
    constructor
    · rintro (h | ⟨h1, h2⟩)
      · have : P * (x + 1) ≤ P * y := Nat.mul_le_mul_left P (by omega)
        rw [Nat.mul_add] at this
        omega
      · have : x = y := by omega
        subst this
        omega
    · intro h
      rcases Nat.lt_trichotomy x y with h1 | h1 | h1
      · exact .inl (by omega)
      · subst h1
        exact .inr ⟨rfl, by omega⟩
      · have : P * (y + 1) ≤ P * x := Nat.mul_le_mul_left P h1
        rw [Nat.mul_add] at this
        omega
theorem num_less {a b : Nat} (ha : a < 1000000) (hb : b < 1000000) : bl (numB a) (numB b) = true ↔ a < b := by
  unfold bl numB
  rw [ByteArray.toList_eq, ByteArray.toList_eq]
  exact dig_less 6 a b ha hb
theorem num_inj {a b : Nat} (ha : a < 1000000) (hb : b < 1000000) (h : numB a = numB b) : a = b := by
  rcases Nat.lt_trichotomy a b with h1 | h1 | h1
  · exact absurd h (bl_ne ((num_less ha hb).2 h1))
  · exact h1
  · exact absurd h.symm (bl_ne ((num_less hb ha).2 h1))
theorem num_size (n : Nat) : (numB n).size = 6 := rfl
theorem inv_all : ∀ c, c < 500 → (2 * c + 1) * ((2 * c + 1) ^ 1023 % 4096) % 4096 = 1 := by decide +kernel

/-- Behind i puts. -/
structure Fill (a i : Nat) (E : List Ent) : Prop where
  len : E.length = i
  mem : ∀ k u, (k, u) ∈ E ↔ ∃ j, j < i ∧ k = numB (j * a % 4096) ∧ u = ((j * a % 4096 : Nat) : Int)
theorem fill_nil (a : Nat) : Fill a 0 [] := ⟨rfl, by simp⟩
theorem step_new {c i j : Nat} (hi : i < 4096) (hj : j < i) : j * (2 * c + 1) % 4096 ≠ i * (2 * c + 1) % 4096 := fun h => by
  have hd : 4096 ∣ (i - j) * (2 * c + 1) := by
    rw [Nat.sub_mul]
    exact Nat.dvd_of_mod_eq_zero (Nat.sub_mod_eq_zero_of_mod_eq h.symm)
  have hc : Nat.Coprime 4096 (2 * c + 1) := by
    have : Nat.Coprime (2 ^ 12) (2 * c + 1) := by
      refine Nat.Coprime.pow_left 12 ?_
      show Nat.gcd 2 (2 * c + 1) = 1
      rw [Nat.gcd_rec, show (2 * c + 1) % 2 = 1 from by omega]
      rfl
    exact this
  have := Nat.le_of_dvd (by omega) (hc.dvd_of_dvd_mul_right hd)
  omega
theorem Fill.put {c i : Nat} {E : List Ent} (h : Fill (2 * c + 1) i E) (hs : SortedE E) (hi : i < 4096) :
    ∃ E', putSpec E (numB (i * (2 * c + 1) % 4096)) ((i * (2 * c + 1) % 4096 : Nat) : Int) = (E', 0, false, 0) ∧ Fill (2 * c + 1) (i + 1) E' := by
  have hv : i * (2 * c + 1) % 4096 < 4096 := Nat.mod_lt _ (by omega)
  have hnone : getE E (numB (i * (2 * c + 1) % 4096)) = none := (get_none hs).2 fun u hu => by
    obtain ⟨j, hj, e, _⟩ := (h.mem _ _).1 hu
    exact step_new hi hj (num_inj (by have := Nat.mod_lt (j * (2 * c + 1)) (show 0 < 4096 by omega); omega) (by omega) e.symm)
  refine ⟨putE E _ _, by unfold putSpec; rw [if_neg (by rw [num_size]; omega), hnone]; dsimp only; rw [if_neg (by rw [h.len]; omega)], ?_, fun k u => ?_⟩
  · rw [put_len]
    have : hasE E (numB (i * (2 * c + 1) % 4096)) = false := by
      cases hh : hasE E (numB (i * (2 * c + 1) % 4096)) with
      | false => rfl
      | true => obtain ⟨u, hu⟩ := get_of_has hh; rw [hu] at hnone; cases hnone
    rw [this, h.len]
    rfl
  · rw [mem_put hs, h.mem]
    constructor
    · rintro (⟨rfl, rfl⟩ | ⟨_, j, hj, e1, e2⟩)
      · exact ⟨i, Nat.lt_succ_self i, rfl, rfl⟩
      · exact ⟨j, Nat.lt_succ_of_lt hj, e1, e2⟩
    · rintro ⟨j, hj, rfl, rfl⟩
      by_cases e : j = i
      · subst e; exact .inl ⟨rfl, rfl⟩
      · refine .inr ⟨fun e2 => ?_, j, by omega, rfl, rfl⟩
        exact step_new hi (by omega : j < i) (num_inj (by have := Nat.mod_lt (j * (2 * c + 1)) (show 0 < 4096 by omega); omega) (by omega) e2)
theorem Fill.full {c : Nat} {E : List Ent} (h : Fill (2 * c + 1) 4096 E) (hs : SortedE E) : putSpec E ⟨#[120]⟩ 0 = (E, 0, false, 2) := by
  have hnone : getE E ⟨#[120]⟩ = none := (get_none hs).2 fun u hu => by
    obtain ⟨j, _, e, _⟩ := (h.mem _ _).1 hu
    have := congrArg ByteArray.size e
    rw [num_size] at this
    cases this
  unfold putSpec
  rw [if_neg (by show ¬ 4096 < 1; omega), hnone]
  dsimp only
  rw [if_pos (by rw [h.len]; omega)]
/-- While every b-th number is taken: behind i. -/
structure Rest (b i left : Nat) (E : List Ent) : Prop where
  len : E.length = left + (4096 - i)
  le : left ≤ i
  mem : ∀ k u, (k, u) ∈ E ↔ ∃ v, v < 4096 ∧ k = numB v ∧ u = ((v : Nat) : Int) ∧ (i ≤ v ∨ v % b ≠ 0)
theorem Fill.rest {c : Nat} {E : List Ent} (h : Fill (2 * c + 1) 4096 E) (hc : c < 500) (b : Nat) : Rest b 0 0 E :=
  ⟨by rw [h.len], Nat.le_refl _, fun k u => by
    rw [h.mem]
    constructor
    · rintro ⟨j, _, e1, e2⟩
      exact ⟨_, Nat.mod_lt _ (by omega), e1, e2, .inl (Nat.zero_le _)⟩
    · rintro ⟨v, hv, e1, e2, _⟩
      have hx := inv_all c hc
      generalize (2 * c + 1) ^ 1023 % 4096 = x at hx
      have : (v * x % 4096) * (2 * c + 1) % 4096 = v := by
        rw [Nat.mod_mul_mod, Nat.mul_assoc, Nat.mul_comm x, ← Nat.mul_mod_mod, hx, Nat.mul_one]
        exact Nat.mod_eq_of_lt hv
      exact ⟨v * x % 4096, Nat.mod_lt _ (by omega), by rw [this]; exact e1, by rw [this]; exact e2⟩⟩
theorem Rest.take {b i left : Nat} {E : List Ent} (h : Rest b i left E) (hs : SortedE E) (hi : i < 4096) (hb : i % b = 0) :
    ∃ E', takeSpec E (numB i) = (E', ((i : Nat) : Int), 0) ∧ Rest b (i + 1) left E' := by
  have hg : getE E (numB i) = some ((i : Nat) : Int) := (get_iff hs).2 ((h.mem _ _).2 ⟨i, hi, rfl, rfl, .inl (Nat.le_refl _)⟩)
  have hh : hasE E (numB i) = true := by
    cases hh : hasE E (numB i) with
    | true => rfl
    | false => rw [get_has hh] at hg; cases hg
  refine ⟨takeE E (numB i), by unfold takeSpec; rw [hg], ?_, by have := h.le; omega, fun k u => ?_⟩
  · rw [take_len, hh, h.len]
    simp only [if_true]
    omega
  · rw [mem_take hs, h.mem]
    constructor
    · rintro ⟨h1, v, hv, rfl, rfl, h2⟩
      refine ⟨v, hv, rfl, rfl, ?_⟩
      rcases h2 with h2 | h2
      · refine .inl ?_
        rcases Nat.lt_or_ge i v with h3 | h3
        · exact h3
        · exact absurd (by rw [Nat.le_antisymm h3 h2]) h1
      · exact .inr h2
    · rintro ⟨v, hv, rfl, rfl, h2⟩
      refine ⟨fun e => ?_, v, hv, rfl, rfl, h2.imp (fun h => by omega) id⟩
      have := num_inj (by omega) (by omega) e
      subst this
      rcases h2 with h2 | h2
      · omega
      · exact h2 hb
theorem Rest.skip {b i left : Nat} {E : List Ent} (h : Rest b i left E) (hi : i < 4096) (hb : i % b ≠ 0) : Rest b (i + 1) (left + 1) E :=
  ⟨by rw [h.len]; omega, by have := h.le; omega, fun k u => by
    rw [h.mem]
    constructor
    · rintro ⟨v, hv, e1, e2, h2⟩
      refine ⟨v, hv, e1, e2, ?_⟩
      rcases h2 with h2 | h2
      · rcases Nat.lt_or_ge i v with h3 | h3
        · exact .inl h3
        · have : v = i := by omega
          subst this
          exact .inr hb
      · exact .inr h2
    · rintro ⟨v, hv, e1, e2, h2⟩
      exact ⟨v, hv, e1, e2, h2.imp (fun h => by omega) id⟩⟩
theorem Rest.at {b left : Nat} {E : List Ent} (h : Rest b 4096 left E) {i : Nat} (hi : i < left) : ∃ v, v < 4096 ∧ E.getD i (emp, 0) = (numB v, ((v : Nat) : Int)) ∧ v % b ≠ 0 := by
  have hl : i < E.length := by rw [h.len]; omega
  have e : E.getD i (emp, 0) = E[i] := by simp [List.getD, hl]
  obtain ⟨v, hv, e1, e2, h2⟩ := (h.mem (E[i]).1 (E[i]).2).1 (List.getElem_mem hl)
  refine ⟨v, hv, by rw [e]; exact Prod.ext e1 e2, ?_⟩
  rcases h2 with h2 | h2
  · omega
  · exact h2

end Go.Proofs.Ythplnecnagbedaa
