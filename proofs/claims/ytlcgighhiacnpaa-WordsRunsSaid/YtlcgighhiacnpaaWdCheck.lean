/- is of package words, may of the document's package, each by its contract; conditions: none. -/
import Derived.Test.YtlcgighhiacnpaaWdPure
import Derived.Test.YtlcgighhiacnpaaProg
import Derived.BigRegion
import Derived.BigQuiet
import Derived.Deep.QuietTactic
import Derived.Deep.CutBlock
namespace Go.Proofs.Ytlcgighhiacnpaa
open Go.RowKit

set_option maxRecDepth 100000 in
set_option maxHeartbeats 2000000 in
theorem is_any (w : World) (k a b n many cells : Int) : Calls Try.prog 21 #[.agg #[.int .i64 k, .int .i64 a, .int .i64 b, .int .i64 n], .int .i64 many, .int .i64 cells] w fun e w' => e = .returned (.bool (okI ⟨k, a, b, n⟩ many cells)) ∧ Below w.heap.size w w' := by
  unfold okI
  dsimp only
  have hbl := (Below.refl w.heap.size w).alloc (Nat.le_refl _) (.cells #[.int .i64 k, .int .i64 a, .int .i64 b, .int .i64 n] 50)
  by_cases h1 : a < 0
  · rw [if_pos (.inl h1)]
    go_enter Try.func21, Try.ntmps21
    go_wp2
    go_ret
    exact ⟨rfl, hbl⟩
  by_cases h2 : 7 < a
  · rw [if_pos (.inr (.inl h2))]
    go_enter Try.func21, Try.ntmps21
    go_wp2
    go_ret
    exact ⟨rfl, hbl⟩
  by_cases h3 : b < 0
  · rw [if_pos (.inr (.inr (.inl h3)))]
    go_enter Try.func21, Try.ntmps21
    go_wp2
    go_ret
    exact ⟨rfl, hbl⟩
  by_cases h4 : 7 < b
  · rw [if_pos (.inr (.inr (.inr h4)))]
    go_enter Try.func21, Try.ntmps21
    go_wp2
    go_ret
    exact ⟨rfl, hbl⟩
  rw [if_neg (by omega)]
  by_cases hk : k = 1 ∨ k = 2 ∨ k = 3 ∨ k = 8
  · rw [if_pos hk]
    rcases hk with rfl | rfl | rfl | rfl
    all_goals
      go_enter Try.func21, Try.ntmps21
      go_wp2
      go_ret
      exact ⟨rfl, hbl⟩
  rw [if_neg hk]
  by_cases hk2 : k = 4 ∨ k = 5 ∨ k = 6
  · rw [if_pos hk2]
    rcases hk2 with rfl | rfl | rfl
    all_goals
      by_cases h5 : 0 ≤ n
      · go_enter Try.func21, Try.ntmps21
        go_wp2
        go_ret
        exact ⟨by simp [h5], hbl⟩
      · go_enter Try.func21, Try.ntmps21
        go_wp2
        go_ret
        exact ⟨by rw [decide_eq_false (by omega)]; rfl, hbl⟩
  rw [if_neg hk2]
  by_cases hk3 : k = 7
  · subst hk3
    rw [if_pos rfl]
    by_cases h5 : 0 ≤ n
    · go_enter Try.func21, Try.ntmps21
      go_wp2
      go_ret
      exact ⟨by simp [h5], hbl⟩
    · go_enter Try.func21, Try.ntmps21
      go_wp2
      go_ret
      exact ⟨by rw [decide_eq_false (by omega)]; rfl, hbl⟩
  rw [if_neg hk3]
  have k1 : (k == 1) = false := by simp; omega
  have k2 : (k == 2) = false := by simp; omega
  have k3 : (k == 3) = false := by simp; omega
  have k4 : (k == 4) = false := by simp; omega
  have k5 : (k == 5) = false := by simp; omega
  have k6 : (k == 6) = false := by simp; omega
  have k7 : (k == 7) = false := by simp; omega
  have k8 : (k == 8) = false := by simp; omega
  clear hk hk2 hk3
  go_enter Try.func21, Try.ntmps21
  go_wp2
  go_ret
  exact ⟨rfl, hbl⟩

set_option maxRecDepth 100000 in
set_option maxHeartbeats 2000000 in
theorem may_any (w : World) (k a b n many cells : Int) : Calls Try.prog 22 #[.agg #[.int .i64 k, .int .i64 a, .int .i64 b, .int .i64 n], .int .i64 many, .int .i64 cells] w fun e w' => e = .returned (.bool (okI ⟨k, a, b, n⟩ many cells)) ∧ Below w.heap.size w w' := by
  unfold okI
  dsimp only
  have hbl := (Below.refl w.heap.size w).alloc (Nat.le_refl _) (.cells #[.int .i64 k, .int .i64 a, .int .i64 b, .int .i64 n] 50)
  by_cases h1 : a < 0
  · rw [if_pos (.inl h1)]
    go_enter Try.func22, Try.ntmps22
    go_wp2
    go_ret
    exact ⟨rfl, hbl⟩
  by_cases h2 : 7 < a
  · rw [if_pos (.inr (.inl h2))]
    go_enter Try.func22, Try.ntmps22
    go_wp2
    go_ret
    exact ⟨rfl, hbl⟩
  by_cases h3 : b < 0
  · rw [if_pos (.inr (.inr (.inl h3)))]
    go_enter Try.func22, Try.ntmps22
    go_wp2
    go_ret
    exact ⟨rfl, hbl⟩
  by_cases h4 : 7 < b
  · rw [if_pos (.inr (.inr (.inr h4)))]
    go_enter Try.func22, Try.ntmps22
    go_wp2
    go_ret
    exact ⟨rfl, hbl⟩
  rw [if_neg (by omega)]
  by_cases hk : k = 1 ∨ k = 2 ∨ k = 3 ∨ k = 8
  · rw [if_pos hk]
    rcases hk with rfl | rfl | rfl | rfl
    all_goals
      go_enter Try.func22, Try.ntmps22
      go_wp2
      go_ret
      exact ⟨rfl, hbl⟩
  rw [if_neg hk]
  by_cases hk2 : k = 4 ∨ k = 5 ∨ k = 6
  · rw [if_pos hk2]
    rcases hk2 with rfl | rfl | rfl
    all_goals
      by_cases h5 : 0 ≤ n
      · go_enter Try.func22, Try.ntmps22
        go_wp2
        go_ret
        exact ⟨by simp [h5], hbl⟩
      · go_enter Try.func22, Try.ntmps22
        go_wp2
        go_ret
        exact ⟨by rw [decide_eq_false (by omega)]; rfl, hbl⟩
  rw [if_neg hk2]
  by_cases hk3 : k = 7
  · subst hk3
    rw [if_pos rfl]
    by_cases h5 : 0 ≤ n
    · go_enter Try.func22, Try.ntmps22
      go_wp2
      go_ret
      exact ⟨by simp [h5], hbl⟩
    · go_enter Try.func22, Try.ntmps22
      go_wp2
      go_ret
      exact ⟨by rw [decide_eq_false (by omega)]; rfl, hbl⟩
  rw [if_neg hk3]
  have k1 : (k == 1) = false := by simp; omega
  have k2 : (k == 2) = false := by simp; omega
  have k3 : (k == 3) = false := by simp; omega
  have k4 : (k == 4) = false := by simp; omega
  have k5 : (k == 5) = false := by simp; omega
  have k6 : (k == 6) = false := by simp; omega
  have k7 : (k == 7) = false := by simp; omega
  have k8 : (k == 8) = false := by simp; omega
  clear hk hk2 hk3
  go_enter Try.func22, Try.ntmps22
  go_wp2
  go_ret
  exact ⟨rfl, hbl⟩

end Go.Proofs.Ytlcgighhiacnpaa
