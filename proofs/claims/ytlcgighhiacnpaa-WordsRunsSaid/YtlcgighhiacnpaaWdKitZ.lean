/- Arguments opened with their weights: tasks, words, picks; conditions: none. -/
import Derived.Test.YtlcgighhiacnpaaWdKit
namespace Go.Proofs.Ytlcgighhiacnpaa
open Go.ChangeShapes Go.WideShapes Go.ChangeAt Go.RowKit Go.Deep

section
variable {H : Type} {enc : TypeId × Value → H} {P : Program} {w : World} {spare : Nat → Bool} {held : Bool}
theorem weightsAll_memW {e : TypeId} {l : List (DataW H)} {d : DataW H} (hd : d ∈ l) : ∀ n ∈ d.weights P e, n ∈ DataW.weightsAll P e l := by
  induction l with
  | nil => cases hd
  | cons a l ih =>
    intro n hn
    simp only [DataW.weightsAll, List.mem_append]
    rcases List.mem_cons.1 hd with rfl | hd
    · exact .inl hn
    · exact .inr (ih hd n hn)
theorem slice_weight {t e : TypeId} {ao : Option Addr} {len cap : Nat} {d : DataW H} {p : List MemPlace} (ht : P.underlying t = some (.slice e)) (h : DataW.Trod enc P w 0 spare held t (.slice ao len cap) d p)
    (hz : ∀ n ∈ d.weights P t, n ≤ reachBytes) : len * P.bytesOf e ≤ reachBytes := by
  obtain ⟨fuel, hf⟩ := h
  rcases open_slice ht hf with ⟨hcs, _⟩ | ⟨a, len', cap', m, n, D, Pl, hcs, _, hl, hm, hmm, hx, hi⟩
  · simp only [Value.cells, List.cons.injEq, Value.slice.injEq, and_true] at hcs
    obtain ⟨_, rfl, rfl⟩ := hcs
    simp
  · simp only [Value.cells, List.cons.injEq, Value.slice.injEq, and_true] at hcs
    obtain ⟨rfl, rfl, rfl⟩ := hcs
    have hd : d = .slice ((List.range len).map D) ((List.range (m - len)).map fun j => D (len + j)) := congrArg Prod.fst hx
    have := hz ((len + (m - len)) * P.bytesOf e) (by rw [hd]; simp [DataW.weights, ht])
    exact Nat.le_trans (Nat.mul_le_mul_right _ (by omega)) this
theorem open_onesZ {t e : TypeId} {ao : Option Addr} {len cap fuel : Nat} {x : DataW H × List MemPlace} (ht : P.underlying t = some (.slice e)) (hC : P.cellsOf e = 1) (h : DataW.trod enc P w 0 spare held fuel t [.slice ao len cap] = some x) :
    ∀ i, i < len → ∃ b off, ao = some ⟨b, off, none⟩ ∧ b < w.heap.size ∧ ∃ (v : Value) (n : Nat) (y : DataW H × List MemPlace), w.cell? ⟨b, off + i, none⟩ = some v ∧ DataW.trod enc P w 0 spare held n e [v] = some y ∧ ∀ n ∈ y.1.weights P e, n ∈ x.1.weights P t := by
  rcases open_slice1 ht hC h with ⟨hcs, _⟩ | ⟨a, len', cap', m, n, V, D, Pl, hcs, _, hl, hm, hmm, hx, hi⟩
  · simp only [List.cons.injEq, Value.slice.injEq, and_true] at hcs
    obtain ⟨_, rfl, rfl⟩ := hcs
    exact fun i hi => absurd hi (Nat.not_lt_zero _)
  · simp only [List.cons.injEq, Value.slice.injEq, and_true] at hcs
    obtain ⟨rfl, rfl, rfl⟩ := hcs
    intro i hil
    have hlm : len ≤ m := by rw [hmm]; split <;> omega
    obtain ⟨hc, ht'⟩ := hi i (by omega)
    obtain ⟨b, off, spot⟩ := a
    have hspot : spot = none := by
      obtain ⟨hc0, _⟩ := hi 0 (by omega)
      simp only [Addr.add, if_true] at hc0
      cases spot with
      | none => rfl
      | some x =>
        exfalso
        unfold World.cell? at hc0
        split at hc0 <;> simp at hc0
    subst hspot
    rw [Addr.add_lit] at hc
    refine ⟨b, off, rfl, World.block_lt_of_cell? w _ hc, V i, n, _, hc, ht', fun k hk => ?_⟩
    have hd : x.1 = .slice ((List.range len).map D) ((List.range (m - len)).map fun j => D (len + j)) := congrArg Prod.fst hx
    rw [hd]
    simp only [DataW.weights, ht, List.mem_cons, List.mem_append]
    exact .inr (.inl (weightsAll_memW (d := D i) (List.mem_map.2 ⟨i, List.mem_range.2 hil, rfl⟩) k hk))

theorem open_tasksZ {t u e : TypeId} {f0 f1 f2 f3 : Field} {ao : Option Addr} {len cap : Nat} {d : DataW H} {p : List MemPlace} (ht : P.underlying t = some (.slice u)) (hu : P.underlying u = some (.slice e)) (hCu : P.cellsOf u = 1) (he : P.underlying e = some (.struct #[f0, f1, f2, f3]))
    (hone : oneCellFields P #[f0, f1, f2, f3] = true) (hC : P.cellsOf e = 4) (h0 : P.underlying f0.type = some (.int .i64)) (h1 : P.underlying f1.type = some (.int .i64)) (h2 : P.underlying f2.type = some (.int .i64)) (h3 : P.underlying f3.type = some (.int .i64))
    (h : DataW.Trod enc P w 0 spare held t (.slice ao len cap) d p) (hz : ∀ n ∈ d.weights P t, n ≤ reachBytes) : ∃ A : List (List Ins), A.length = len ∧ RdT w w.heap.size ao A ∧ ∀ k, k < len → (A.getD k []).length * P.bytesOf e ≤ reachBytes := by
  obtain ⟨fuel, hf⟩ := h
  have hall := open_onesZ ht hCu hf
  obtain ⟨F, hF⟩ := choose_lt (α := List Ins) (n := len) (p := fun k x => (∃ b off at_ ct, ao = some ⟨b, off, none⟩ ∧ b < w.heap.size ∧ w.cell? ⟨b, off + k, none⟩ = some (.slice at_ x.length ct) ∧ x.length ≤ ct ∧ ct ≤ 9223372036854775807 ∧ RdI w w.heap.size at_ x) ∧ x.length * P.bytesOf e ≤ reachBytes) (fun i hi => by
    obtain ⟨b, off, e1, hb, v, n, y, hc, hy, hw⟩ := hall i hi
    have hv : ∃ a2 l2 c2, v = .slice a2 l2 c2 := by
      rcases DataW.trod_slice hu hy with ⟨hcs, _⟩ | ⟨a2, l2, c2, _, _, _, _, hcs, _⟩
      · simp only [List.cons.injEq, and_true] at hcs; exact ⟨_, _, _, hcs⟩
      · simp only [List.cons.injEq, and_true] at hcs; exact ⟨_, _, _, hcs⟩
    obtain ⟨a2, l2, c2, rfl⟩ := hv
    obtain ⟨hl2, hm2, A, hA, hri⟩ := open_instrs (d := y.1) (p := y.2) hu he hone hC h0 h1 h2 h3 ⟨n, hy⟩
    have hzz := slice_weight (d := y.1) (p := y.2) hu ⟨n, hy⟩ fun k hk => hz k (hw k hk)
    subst hA
    exact ⟨A, ⟨b, off, a2, c2, e1, hb, hc, hl2, by unfold maxLen at hm2; omega, hri⟩, hzz⟩)
  have hget : ∀ k, k < len → ((List.range len).map F).getD k [] = F k := fun k hk => by simp [List.getD, hk]
  refine ⟨(List.range len).map F, by simp, fun k hk => ?_, fun k hk => ?_⟩
  · have hk' : k < len := by simpa using hk
    rw [hget k hk']
    exact (hF k hk').1
  · rw [hget k hk]
    exact (hF k hk).2
end

end Go.Proofs.Ytlcgighhiacnpaa
