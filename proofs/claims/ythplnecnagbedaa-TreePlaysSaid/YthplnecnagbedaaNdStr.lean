/- Texts that came in; the halves of a node by keys; a map that a range over the keys fills; conditions: none. -/
import Derived.Test.YthplnecnagbedaaNdMap
namespace Go.Proofs.Ythplnecnagbedaa
open Go.ChangeShapes Go.WideShapes Go.ChangeAt Go.RowKit Go.Deep Go.Maps

section
variable {H : Type} {enc : TypeId × Value → H} {P : Program} {w : World} {spare : Nat → Bool} {held : Bool}
/-- A slice whose elements are one cell each. -/
theorem open_ones {t e : TypeId} {ao : Option Addr} {len cap fuel : Nat} {x : DataW H × List MemPlace} (ht : P.underlying t = some (.slice e)) (hC : P.cellsOf e = 1) (h : DataW.trod enc P w 0 spare held fuel t [.slice ao len cap] = some x) :
    len ≤ cap ∧ cap ≤ maxLen ∧ ∀ i, i < len → ∃ b off, ao = some ⟨b, off, none⟩ ∧ b < w.heap.size ∧ ∃ (v : Value) (n : Nat) (y : DataW H × List MemPlace), w.cell? ⟨b, off + i, none⟩ = some v ∧ DataW.trod enc P w 0 spare held n e [v] = some y := by
  rcases open_slice1 ht hC h with ⟨hcs, _⟩ | ⟨a, len', cap', m, n, V, D, Pl, hcs, _, hl, hm, hmm, hx, hi⟩
  · simp only [List.cons.injEq, Value.slice.injEq, and_true] at hcs
    obtain ⟨_, rfl, rfl⟩ := hcs
    exact ⟨Nat.le_refl _, by simp [maxLen], fun i hi => absurd hi (Nat.not_lt_zero _)⟩
  · simp only [List.cons.injEq, Value.slice.injEq, and_true] at hcs
    obtain ⟨rfl, rfl, rfl⟩ := hcs
    refine ⟨hl, hm, fun i hil => ?_⟩
    have hlm : len ≤ m := by rw [hmm]; split <;> omega
    obtain ⟨hc, ht'⟩ := hi i (by omega)
    obtain ⟨b, off, spot⟩ := a
    have hspot : spot = none := by
      obtain ⟨hc0, _⟩ := hi 0 (by omega)
      simp only [Addr.add, if_true] at hc0
      cases spot with
      | none => rfl
      | some x =>
        exfalso
        unfold World.cell? at hc0
        split at hc0 <;> simp at hc0
    subst hspot
    rw [Addr.add_lit] at hc
    exact ⟨b, off, rfl, World.block_lt_of_cell? w _ hc, V i, n, _, hc, ht'⟩
theorem open_strs {t e : TypeId} {ao : Option Addr} {len cap : Nat} {d : DataW H} {p : List MemPlace} (ht : P.underlying t = some (.slice e)) (hC : P.cellsOf e = 1) (he : P.underlying e = some .string) (h : DataW.Trod enc P w 0 spare held t (.slice ao len cap) d p) :
    len ≤ maxLen ∧ ∃ A : List ByteArray, A.length = len ∧ RdS w w.heap.size ao A := by
  obtain ⟨fuel, hf⟩ := h
  obtain ⟨hl, hm, hall⟩ := open_ones ht hC hf
  obtain ⟨F, hF⟩ := choose_lt (α := ByteArray) (n := len) (p := fun k x => ∃ b off, ao = some ⟨b, off, none⟩ ∧ b < w.heap.size ∧ w.cell? ⟨b, off + k, none⟩ = some (.string x)) (fun i hi => by
    obtain ⟨b, off, e1, hb, v, n, y, hc, hy⟩ := hall i hi
    obtain ⟨x0, q0, _⟩ := DataW.trod_string he hy
    simp only [List.cons.injEq, and_true] at q0
    subst q0
    exact ⟨x0, b, off, e1, hb, hc⟩)
  refine ⟨by omega, (List.range len).map F, by simp, fun k hk => ?_⟩
  have hk' : k < len := by simpa using hk
  have e1 : ((List.range len).map F).getD k emp = F k := by simp [List.getD, hk']
  rw [e1]
  exact hF k hk'
end

theorem getE_at {A : List Ent} {i : Nat} (h : i < A.length) : A.getD i (emp, 0) = A[i] := by simp [List.getD, h]
theorem ne_at {A : List Ent} (hs : SortedE A) {i j : Nat} (hi : i < A.length) (hj : j < A.length) (hne : i ≠ j) : (A[i]).1 ≠ (A[j]).1 := by
  have h := List.pairwise_iff_getElem.1 hs
  rcases Nat.lt_or_ge i j with h1 | h1
  · exact bl_ne (h i j hi hj h1)
  · exact (bl_ne (h j i hj hi (by omega))).symm
theorem getM_memN {M : Nd} (hs : SortedE M.ents) {k : ByteArray} {v : Int} (h : (k, v) ∈ M.ents) : getM M k = (v, true) := by
  unfold getM
  rw [(get_iff hs).2 h]
theorem getM_not {M : Nd} (hs : SortedE M.ents) {k : ByteArray} (h : ∀ v, (k, v) ∉ M.ents) : getM M k = (0, false) := by
  have : hasE M.ents k = false := by
    cases hh : hasE M.ents k with
    | false => rfl
    | true => obtain ⟨v, hv⟩ := (has_iff hs).1 hh; exact absurd hv (h v)
  unfold getM
  rw [get_has this]
theorem getM_at {N : Nd} (h : NdOk N) {i : Nat} (hi : i < N.ents.length) : getM N (N.ents[i]).1 = ((N.ents[i]).2, true) := getM_memN h.sorted (List.getElem_mem hi)
theorem half_get {N : Nd} (h : NdOk N) {i : Nat} (hi : i < N.ents.length) :
    (getM (splitL N) (N.ents[i]).1 = ((N.ents[i]).2, true) ∧ getM (splitR N) (N.ents[i]).1 = (0, false)) ∨ (getM (splitL N) (N.ents[i]).1 = (0, false) ∧ getM (splitR N) (N.ents[i]).1 = ((N.ents[i]).2, true)) := by
  have hl := splitL_ents h
  have hr := splitR_ents h
  have hsl := (splitL_ok h).sorted
  have hsr := (splitR_ok N).sorted
  generalize (N.u + 1) / 2 = p at hl hr
  by_cases hip : i < p
  · refine .inl ⟨getM_memN hsl ?_, getM_not hsr fun v hv => ?_⟩
    · rw [hl]; exact List.mem_take_iff_getElem.2 ⟨i, by omega, rfl⟩
    · rw [hr] at hv
      obtain ⟨j, hj, e⟩ := List.mem_iff_getElem.1 hv
      rw [List.getElem_drop] at e
      simp only [List.length_drop] at hj
      exact ne_at h.sorted (i := i) (j := p + j) hi (by omega) (by omega) (by rw [e])
  · refine .inr ⟨getM_not hsl fun v hv => ?_, getM_memN hsr ?_⟩
    · rw [hl] at hv
      obtain ⟨j, hj, e⟩ := List.mem_take_iff_getElem.1 hv
      exact ne_at h.sorted (i := i) (j := j) hi (by omega) (by omega) (by rw [e])
    · rw [hr]
      refine List.mem_iff_getElem.2 ⟨i - p, by simp; omega, ?_⟩
      rw [List.getElem_drop]
      simp only [show p + (i - p) = i by omega]
theorem keys_halves {N : Nd} (h : NdOk N) : keysM (splitL N) ++ keysM (splitR N) = keysM N ∧ (keysM (splitL N)).length = (N.u + 1) / 2 ∧ (keysM (splitR N)).length = N.u - (N.u + 1) / 2 ∧ keysM (splitR N) = upperM N := by
  have hl := splitL_ents h
  have hr := splitR_ents h
  have hu := ents_len N
  refine ⟨?_, ?_, ?_, ?_⟩
  · unfold keysM; rw [hl, hr, ← List.map_append, List.take_append_drop]
  · unfold keysM; rw [hl]; simp; omega
  · unfold keysM; rw [hr]; simp; omega
  · rw [upper_eq]; unfold keysM; rw [hr]

def WfE (A : List Ent) : Prop := ∀ e ∈ A, (Lit.int .i64 e.2).wf = true
theorem wfE_put {N : Nd} (h : NdOk N) (hw : WfE N.ents) (k : ByteArray) {v : Int} (hv : (Lit.int .i64 v).wf = true) : WfE (putM N k v).1.ents := by
  rw [putM_ents h]
  split
  · intro e he
    rcases (mem_put h.sorted k v e.1 e.2).1 he with ⟨_, h2⟩ | ⟨_, h2⟩
    · rw [h2]; exact hv
    · exact hw _ h2
  · exact hw

structure MapV (D : DataW Unit) (A : List Ent) (j : Nat) : Prop where
  tidy : Tidy D
  val : ∀ i (_ : i < j) (hi : i < A.length) z, D.atKey (litK (A[i]).1) z = .lit (.int .i64 (A[i]).2)
theorem mapV_nil (A : List Ent) : MapV (.map []) A 0 := ⟨tidy_empty, fun i h => by omega⟩
theorem MapV.put {D : DataW Unit} {A : List Ent} {j : Nat} (h : MapV D A j) (hs : SortedE A) (hj : j < A.length) : MapV (D.put (litK (A[j]).1) (.lit (.int .i64 (A[j]).2))) A (j + 1) := by
  refine ⟨h.tidy.put (litK_key _) _, fun i hij hi z => ?_⟩
  by_cases e : i = j
  · subst e; exact Maps.atKey_put_same h.tidy.isMap (litK_key _) _ _
  · rw [Maps.atKey_put_other (litK_ne (ne_at hs hi hj e))]
    exact h.val i (by omega) hi z
theorem keys_at (N : Nd) {i : Nat} (h : i < N.ents.length) : (keysM N).getD i emp = (N.ents[i]).1 := by
  unfold keysM; simp only [List.getD, List.getElem?_map]; rw [List.getElem?_eq_getElem h]; rfl
theorem own_news {w : World} {B : Nat} {a : Option Addr} {k n : Nat} {L : List ByteArray} (h : w.ownsRow B 9 1 (.slice a n k) n (L.map .string)) : ∀ j u, (L.map Value.string)[j]? = some u → ∃ ad, a = some ad ∧ w.cell? (ad.add j) = some u := fun j u hu => by
  obtain ⟨b, e, _, _, hc⟩ := own_rd h j u hu
  exact ⟨_, e, by rw [Addr.add_lit, Nat.zero_add]; exact hc⟩
theorem str_one (L : List ByteArray) : ∀ u ∈ L.map Value.string, u.oneCell' = true := fun u hu => by
  obtain ⟨s, _, rfl⟩ := List.mem_map.1 hu
  rfl
theorem build0 (w : World) : (Instr.buildSlice 44 0 #[]).run Try.prog w = .ok (.slice (some ⟨w.heap.size, 0, none⟩) 0 0) (w.alloc (.cells #[] 9)) := by kernel_rfl
theorem own_zero (w : World) : (w.alloc (.cells #[] 9)).ownsRow w.heap.size 9 1 (.slice (some ⟨w.heap.size, 0, none⟩) 0 0) 0 [] :=
  ⟨rfl, .inr ⟨w.heap.size, 0, #[], rfl, Nat.le_refl _, Blk.new w 9 #[], Nat.le_refl _, Nat.zero_le _, rfl, rfl⟩⟩

end Go.Proofs.Ythplnecnagbedaa
