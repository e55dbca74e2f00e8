/- Arguments opened: a slice of acts, cell by cell, the texts no longer than may come in; conditions: the reading's weights are bounded. -/
import Derived.Test.YtnbjbjpfleiogaaStKit
import Derived.Test.YtnbjbjpfleiogaaStStep
namespace Go.Proofs.Ytnbjbjpfleiogaa
open Go.ChangeShapes Go.WideShapes Go.ChangeAt Go.RowKit Go.Deep

structure ActR where
  kind : Int
  conn : Int
  side : Int
  n : Int
  data : ByteArray
def act0 : ActR := ⟨0, 0, 0, 0, ⟨#[]⟩⟩
instance : Inhabited ActR := ⟨act0⟩

/-- A slice of acts that came in: what each element reads as, below block B. -/
def RdA (w : World) (B : Nat) (ao : Option Addr) (A : List ActR) : Prop :=
  ∀ k, k < A.length → ∃ b off, ao = some ⟨b, off, none⟩ ∧ b < B ∧ w.cell? ⟨b, off + k * 5, none⟩ = some (.int .i64 (A.getD k act0).kind) ∧ w.cell? ⟨b, off + k * 5 + 1, none⟩ = some (.int .i64 (A.getD k act0).conn) ∧
    w.cell? ⟨b, off + k * 5 + 2, none⟩ = some (.int .i64 (A.getD k act0).side) ∧ w.cell? ⟨b, off + k * 5 + 3, none⟩ = some (.int .i64 (A.getD k act0).n) ∧ w.cell? ⟨b, off + k * 5 + 4, none⟩ = some (.string (A.getD k act0).data) ∧
    (A.getD k act0).data.size ≤ 140737488355328 ∧ (-9223372036854775808 ≤ (A.getD k act0).n ∧ (A.getD k act0).n ≤ 9223372036854775807)
theorem RdA.below {w w' : World} {B : Nat} {ao : Option Addr} {A : List ActR} (h : RdA w B ao A) (hb : Below B w w') : RdA w' B ao A := fun k hk => by
  obtain ⟨b, off, e, hB, c0, c1, c2, c3, c4, hm⟩ := h k hk
  exact ⟨b, off, e, hB, (hb.cell (p := ⟨b, _, none⟩) hB).trans c0, (hb.cell (p := ⟨b, _, none⟩) hB).trans c1, (hb.cell (p := ⟨b, _, none⟩) hB).trans c2, (hb.cell (p := ⟨b, _, none⟩) hB).trans c3, (hb.cell (p := ⟨b, _, none⟩) hB).trans c4, hm⟩

section
variable {H : Type} {enc : TypeId × Value → H} {P : Program} {w : World} {spare : Nat → Bool} {held : Bool}
theorem weightsAll_mem {e : TypeId} {l : List (DataW H)} {d : DataW H} (hd : d ∈ l) : ∀ n ∈ d.weights P e, n ∈ DataW.weightsAll P e l := by
  induction l with
  | nil => cases hd
  | cons a l ih =>
    intro n hn
    simp only [DataW.weightsAll, List.mem_append]
    rcases List.mem_cons.1 hd with rfl | hd
    · exact .inl hn
    · exact .inr (ih hd n hn)

/-- A slice of structs of one-cell fields: of each element each field's cell, and that the field reads, and is no heavier than the whole. -/
theorem open_rowsZ {t e : TypeId} {fs : Array Field} {ao : Option Addr} {len cap : Nat} {d : DataW H} {p : List MemPlace} (ht : P.underlying t = some (.slice e)) (he : P.underlying e = some (.struct fs))
    (hone : oneCellFields P fs = true) (hC : P.cellsOf e = fs.size) (hpos : 0 < fs.size) (h : DataW.Trod enc P w 0 spare held t (.slice ao len cap) d p) :
    len ≤ cap ∧ cap ≤ maxLen ∧ ∀ i, i < len → ∃ b off, ao = some ⟨b, off, none⟩ ∧ b < w.heap.size ∧
      ∀ (j : Nat) (f : Field), fs[j]? = some f → ∃ (v : Value) (n : Nat) (y : DataW H × List MemPlace), w.cell? ⟨b, off + i * fs.size + j, none⟩ = some v ∧ DataW.trod enc P w 0 spare held n f.type [v] = some y ∧ ∀ n ∈ y.1.weights P f.type, n ∈ d.weights P t := by
  obtain ⟨fuel, hf⟩ := h
  rcases open_slice ht hf with ⟨hcs, _⟩ | ⟨a, len', cap', m, n, D, Pl, hcs, _, hl, hm, hmm, hx, hi⟩
  · simp only [Value.cells, List.cons.injEq, Value.slice.injEq, and_true] at hcs
    obtain ⟨_, rfl, rfl⟩ := hcs
    exact ⟨Nat.le_refl _, by simp [maxLen], fun i hi => absurd hi (Nat.not_lt_zero _)⟩
  · simp only [Value.cells, List.cons.injEq, Value.slice.injEq, and_true] at hcs
    obtain ⟨rfl, rfl, rfl⟩ := hcs
    refine ⟨hl, hm, fun i hil => ?_⟩
    have hlm : len ≤ m := by rw [hmm]; split <;> omega
    have hd : d = .slice ((List.range len).map D) ((List.range (m - len)).map fun j => D (len + j)) := congrArg Prod.fst hx
    have get : ∀ i, i < len → ∀ (j : Nat) (f : Field), fs[j]? = some f → ∃ (v : Value) (n : Nat) (y : DataW H × List MemPlace), w.cell? (a.add (i * fs.size + j)) = some v ∧ DataW.trod enc P w 0 spare held n f.type [v] = some y ∧ ∀ n ∈ y.1.weights P f.type, n ∈ d.weights P t := by
      intro i hil j f hj
      obtain ⟨cs', hc, ht'⟩ := hi i (by omega)
      rw [hC] at hc
      obtain ⟨ys, n', _, hagg, hlen, hyl, hfld⟩ := DataW.trod_struct he ht'
      obtain ⟨_, hcl, hat⟩ := World.cells?_some hc
      obtain ⟨ho, hk⟩ := hone_of hone j f hj
      have hjl : j < fs.size := (Array.getElem?_eq_some_iff.1 hj).1
      have h1 := hfld j f hj
      rw [ho, hk] at h1
      have hone' : (cs'.drop j).take 1 = [cs'[j]'(by omega)] := by
        rw [List.drop_eq_getElem_cons (by omega)]
        rfl
      rw [hone'] at h1
      have hys : ys[j]? = some (ys[j]'(by omega)) := List.getElem?_eq_getElem (by omega)
      refine ⟨_, n', _, ?_, h1.trans hys, fun k hk => ?_⟩
      · rw [← Go.Deep.add_add, hat j hjl]
        exact List.getElem?_eq_getElem (by omega)
      · have hDi : D i = .agg (ys.map (·.1)) := congrArg Prod.fst hagg
        rw [hd]
        simp only [DataW.weights, ht, List.mem_cons, List.mem_append]
        refine .inr (.inl (weightsAll_mem (d := D i) (List.mem_map.2 ⟨i, List.mem_range.2 hil, rfl⟩) k ?_))
        rw [hDi]
        simp only [DataW.weights, he]
        refine DataW.weights_mem_each (j := j) (t := f.type) ?_ ?_ k hk
        · rw [List.getElem?_map, Array.getElem?_toList, hj]; rfl
        · rw [List.getElem?_map, hys]; rfl
    have hf0 : fs[0]? = some (fs[0]'hpos) := by simp [hpos]
    obtain ⟨v0, _, _, hc0, _⟩ := get 0 (by omega) 0 _ hf0
    obtain ⟨b, off, spot⟩ := a
    have hspot : spot = none := by
      simp only [Nat.zero_mul, Nat.add_zero, Addr.add, if_true] at hc0
      cases spot with
      | none => rfl
      | some x =>
        exfalso
        unfold World.cell? at hc0
        split at hc0 <;> simp at hc0
    subst hspot
    refine ⟨b, off, rfl, (by have := World.block_lt_of_cell? w _ hc0; rwa [Addr.add_lit] at this), fun j f hj => ?_⟩
    obtain ⟨v, n', y, hc, hy⟩ := get i hil j f hj
    refine ⟨v, n', y, ?_, hy⟩
    rw [← hc, Addr.add_lit, Nat.add_assoc]

theorem open_acts {t e : TypeId} {f0 f1 f2 f3 f4 : Field} {ao : Option Addr} {len cap : Nat} {d : DataW H} {p : List MemPlace} (ht : P.underlying t = some (.slice e)) (he : P.underlying e = some (.struct #[f0, f1, f2, f3, f4]))
    (hone : oneCellFields P #[f0, f1, f2, f3, f4] = true) (hC : P.cellsOf e = 5) (h0 : P.underlying f0.type = some (.int .i64)) (h1 : P.underlying f1.type = some (.int .i64)) (h2 : P.underlying f2.type = some (.int .i64)) (h3 : P.underlying f3.type = some (.int .i64)) (h4 : P.underlying f4.type = some .string)
    (hz : (d.weights P t).all (· ≤ reachBytes) = true) (h : DataW.Trod enc P w 0 spare held t (.slice ao len cap) d p) : len ≤ maxLen ∧ ∃ A : List ActR, A.length = len ∧ RdA w w.heap.size ao A := by
  obtain ⟨hl, hm, hall⟩ := open_rowsZ ht he hone hC (by simp) h
  obtain ⟨F, hF⟩ := choose_lt (α := ActR) (n := len) (p := fun k x => ∃ b off, ao = some ⟨b, off, none⟩ ∧ b < w.heap.size ∧ w.cell? ⟨b, off + k * 5, none⟩ = some (.int .i64 x.kind) ∧ w.cell? ⟨b, off + k * 5 + 1, none⟩ = some (.int .i64 x.conn) ∧
      w.cell? ⟨b, off + k * 5 + 2, none⟩ = some (.int .i64 x.side) ∧ w.cell? ⟨b, off + k * 5 + 3, none⟩ = some (.int .i64 x.n) ∧ w.cell? ⟨b, off + k * 5 + 4, none⟩ = some (.string x.data) ∧ x.data.size ≤ 140737488355328 ∧ (-9223372036854775808 ≤ x.n ∧ x.n ≤ 9223372036854775807)) (fun i hi => by
    obtain ⟨b, off, e1, hb, hfl⟩ := hall i hi
    obtain ⟨v0, n0, y0, c0, t0, _⟩ := hfl 0 f0 rfl
    obtain ⟨v1, n1, y1, c1, t1, _⟩ := hfl 1 f1 rfl
    obtain ⟨v2, n2, y2, c2, t2, _⟩ := hfl 2 f2 rfl
    obtain ⟨v3, n3, y3, c3, t3, _⟩ := hfl 3 f3 rfl
    obtain ⟨v4, n4, y4, c4, t4, z4⟩ := hfl 4 f4 rfl
    obtain ⟨x0, q0, _, _⟩ := DataW.trod_int h0 t0
    obtain ⟨x1, q1, _, _⟩ := DataW.trod_int h1 t1
    obtain ⟨x2, q2, _, _⟩ := DataW.trod_int h2 t2
    obtain ⟨x3, q3, _, w3⟩ := DataW.trod_int h3 t3
    obtain ⟨x4, q4, rfl, hs⟩ := DataW.trod_string h4 t4
    simp only [List.cons.injEq, and_true] at q0 q1 q2 q3 q4
    subst q0 q1 q2 q3 q4
    have hb4 : x4.size ≤ reachBytes := by
      have := List.all_eq_true.1 hz _ (z4 x4.size (by simp [DataW.weights]))
      simpa using this
    have hr := reachBytes_lt
    exact ⟨⟨x0, x1, x2, x3, x4⟩, b, off, e1, hb, c0, c1, c2, c3, c4, by show x4.size ≤ _; omega, by have := bounds_i64 w3; exact this⟩)
  refine ⟨by omega, (List.range len).map F, by simp, fun k hk => ?_⟩
  have hk' : k < len := by simpa using hk
  have e1 : ((List.range len).map F).getD k act0 = F k := by simp [List.getD, hk']
  rw [e1]
  exact hF k hk'
end

end Go.Proofs.Ytnbjbjpfleiogaa
