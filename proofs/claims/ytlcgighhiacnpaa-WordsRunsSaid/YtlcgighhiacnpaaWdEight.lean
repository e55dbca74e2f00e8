/- Two rows of eight words are compared; conditions: they are the same. -/
import Derived.Test.YtlcgighhiacnpaaWdOpen
namespace Go.Proofs.Ytlcgighhiacnpaa
open Go.RowKit

theorem eight {l : List Nat} (h : l.length = 8) : ∃ x0 x1 x2 x3 x4 x5 x6 x7, l = [x0, x1, x2, x3, x4, x5, x6, x7] := by
  match l, h with
  | [x0, x1, x2, x3, x4, x5, x6, x7], _ => exact ⟨x0, x1, x2, x3, x4, x5, x6, x7, rfl⟩
theorem run_equalIn_words (d : Nat) (w : World) (xs : Array Value) (h : ∀ i, i < 8 → ∃ x : Int, xs[i]? = some (.int .u64 x)) : (Op.equalIn (d + 2) 47 (.agg xs) (.agg xs)).run Try.prog w = .ok true w := by
  have hu : Try.prog.underlying 47 = some (.array 8 38) := Try.underlying47
  have h38 : Try.prog.underlying 38 = some (.int .u64) := Try.underlying38
  have hs : ∀ W, (sizeOf 38).run Try.prog W = .ok 1 W := fun _ => by kernel_rfl
  have hg : ∀ W, (isAgg 38).run Try.prog W = .ok false W := fun _ => by kernel_rfl
  have hd : Op.equalIn (d + 2) = Op.equalIn ((d + 1) + 1) := rfl
  have hp : ∀ (W : World) (i : Nat) (v : Value), xs[i]? = some v → (part 38 xs i).run Try.prog W = .ok v W := fun W i v hv => by
    simp [part, hg, hv]
  rw [hd]
  unfold Op.equalIn
  simp only [Sem.run_bind, run_underlying hu, Result.andThen_ok, hs, Std.Legacy.Range.forIn_eq_forIn_range']
  have key : ∀ L : List Nat, (∀ i ∈ L, i < 8) → ((forIn L ((none : Option Bool), ()) fun i __s => do
      let a ← part 38 xs (i * 1)
      let b ← part 38 xs (i * 1)
      let r ← Op.equalIn (d + 1) 38 a b
      if (!r) = true then pure (ForInStep.done (some false, ())) else pure (ForInStep.yield (none, ()))) : Sem (Option Bool × Unit)).run Try.prog w = .ok (none, ()) w := by
    intro L
    induction L with
    | nil => intro _; rfl
    | cons i L ih =>
      intro hL
      obtain ⟨x, hx⟩ := h i (hL i (by simp))
      rw [List.forIn_cons]
      simp only [Nat.mul_one, Sem.run_bind, hp w i _ hx, Result.andThen_ok, run_equalIn_int w d 38 .u64 .u64 x x h38, beq_self_eq_true, Bool.not_true, Bool.false_eq_true, if_false, Sem.run_pure]
      have := ih fun j hj => hL j (by simp [hj])
      simpa only [Nat.mul_one] using this
  rw [key _ (fun i hi => by
    have := List.mem_range'.1 hi
    obtain ⟨k, hk, rfl⟩ := this
    simp at hk
    simp
    omega)]
  rfl
theorem run_eql_words (w : World) (xs : Array Value) (h : ∀ i, i < 8 → ∃ x : Int, xs[i]? = some (.int .u64 x)) : (binOp .eql 47 (.agg xs) (.agg xs)).run Try.prog w = .ok (.bool true) w := by
  simp only [binOp]
  simp [Op.equal, Op.maxDepth, run_equalIn_words 9998 w xs h]
theorem run_neq_words (w : World) (xs : Array Value) (h : ∀ i, i < 8 → ∃ x : Int, xs[i]? = some (.int .u64 x)) : (binOp .neq 47 (.agg xs) (.agg xs)).run Try.prog w = .ok (.bool false) w := by
  simp only [binOp]
  simp [Op.equal, Op.maxDepth, run_equalIn_words 9998 w xs h]
theorem uvl_at {l : List Nat} {n : Nat} (h : l.length = n) : ∀ i, i < n → ∃ x : Int, (uvl l).toArray[i]? = some (.int .u64 x) := fun i hi => by
  have hl : i < l.length := by omega
  exact ⟨(l[i] : Nat), by simp [uvl, hl]⟩

end Go.Proofs.Ytlcgighhiacnpaa
