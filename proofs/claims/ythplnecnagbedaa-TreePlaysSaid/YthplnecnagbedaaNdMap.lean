/- A map of texts to numbers that holds just the entries of a sorted list; acts with their bounds; conditions: none. -/
import Derived.Test.YthplnecnagbedaaNdKit
import Derived.Maps.OwnSet
import Derived.StringKeys
namespace Go.Proofs.Ythplnecnagbedaa
open Go.ChangeShapes Go.WideShapes Go.ChangeAt Go.RowKit Go.Deep Go.Maps

theorem keyed9 : Keyed Try.prog 9 := string_keyed Try.underlying9
theorem zero3 (w : World) : (zeroValue 3).run Try.prog w = .ok (.int .i64 0) w := by kernel_rfl
def litK (k : ByteArray) : Lit := .string k.data.toList
theorem litK_inj {a b : ByteArray} (h : litK a = litK b) : a = b := by
  injection h with h
  exact ba_ext (by rw [ByteArray.toList_eq, ByteArray.toList_eq]; exact h)
theorem litK_ne {a b : ByteArray} (h : a ≠ b) : litK a ≠ litK b := fun e => h (litK_inj e)
theorem litK_key (k : ByteArray) : WideAt.IsKeyLit (litK k) := trivial

/-- The map holds just these entries. -/
structure MapE (D : DataW Unit) (A : List Ent) : Prop where
  tidy : Tidy D
  has : ∀ k, Maps.has D (litK k) = hasE A k
  val : ∀ k v, getE A k = some v → ∀ z, D.atKey (litK k) z = .lit (.int .i64 v)
  size : Maps.size D = A.length
theorem mapE_nil : MapE (.map []) [] := ⟨tidy_empty, fun k => by simp [Maps.has_eq]; rfl, fun k v h => (by cases h), rfl⟩
theorem has_put {A : List Ent} (hs : SortedE A) (k : ByteArray) (v : Int) (a : ByteArray) : hasE (putE A k v) a = if a = k then true else hasE A a := by
  rw [Bool.eq_iff_iff, has_iff (sorted_put hs k v)]
  by_cases e : a = k
  · subst e
    simp only [if_pos, iff_true]
    exact ⟨v, (mem_put hs a v a v).2 (.inl ⟨rfl, rfl⟩)⟩
  · rw [if_neg e, has_iff hs]
    constructor
    · rintro ⟨u, hu⟩
      rcases (mem_put hs k v a u).1 hu with ⟨h1, _⟩ | ⟨_, h2⟩
      · exact absurd h1 e
      · exact ⟨u, h2⟩
    · rintro ⟨u, hu⟩
      exact ⟨u, (mem_put hs k v a u).2 (.inr ⟨e, hu⟩)⟩
theorem has_take {A : List Ent} (hs : SortedE A) (k : ByteArray) (a : ByteArray) : hasE (takeE A k) a = if a = k then false else hasE A a := by
  rw [Bool.eq_iff_iff, has_iff (sorted_take hs k)]
  by_cases e : a = k
  · subst e
    simp only [if_pos, Bool.false_eq_true, iff_false]
    rintro ⟨u, hu⟩
    exact ((mem_take hs a a u).1 hu).1 rfl
  · rw [if_neg e, has_iff hs]
    constructor
    · rintro ⟨u, hu⟩; exact ⟨u, ((mem_take hs k a u).1 hu).2⟩
    · rintro ⟨u, hu⟩; exact ⟨u, (mem_take hs k a u).2 ⟨e, hu⟩⟩
theorem MapE.put {D : DataW Unit} {A : List Ent} (h : MapE D A) (hs : SortedE A) (k : ByteArray) (v : Int) : MapE (D.put (litK k) (.lit (.int .i64 v))) (putE A k v) := by
  refine ⟨h.tidy.put (litK_key k) _, fun a => ?_, fun a u hu z => ?_, ?_⟩
  · rw [has_put hs]
    by_cases e : a = k
    · subst e; rw [if_pos rfl]; exact Maps.has_put_same h.tidy.isMap (litK_key a) _
    · rw [if_neg e, Maps.has_put_other (litK_ne e)]; exact h.has a
  · rw [get_iff (sorted_put hs k v), mem_put hs] at hu
    rcases hu with ⟨rfl, rfl⟩ | ⟨hne, hm⟩
    · exact Maps.atKey_put_same h.tidy.isMap (litK_key _) _ _
    · rw [Maps.atKey_put_other (litK_ne hne)]
      exact h.val a u ((get_iff hs).2 hm) z
  · rw [Maps.size_put h.tidy, h.has, put_len, h.size]
theorem MapE.del {D : DataW Unit} {A : List Ent} (h : MapE D A) (hs : SortedE A) (k : ByteArray) : MapE (D.del (litK k)) (takeE A k) := by
  refine ⟨h.tidy.del _, fun a => ?_, fun a u hu z => ?_, ?_⟩
  · rw [has_take hs]
    by_cases e : a = k
    · subst e; rw [if_pos rfl]; exact Maps.has_del_same
    · rw [if_neg e, Maps.has_del_other (litK_ne e)]; exact h.has a
  · rw [get_iff (sorted_take hs k), mem_take hs] at hu
    obtain ⟨hne, hm⟩ := hu
    rw [Maps.atKey_del_other (litK_ne hne)]
    exact h.val a u ((get_iff hs).2 hm) z
  · have := Maps.size_del (k := litK k) h.tidy
    rw [h.has, h.size] at this
    rw [take_len]
    split <;> rename_i hh
    · rw [if_pos hh] at this; omega
    · rw [if_neg hh] at this; omega
theorem lit_inj {x y : Int} (h : (DataW.lit (.int .i64 x) : DataW Unit) = .lit (.int .i64 y)) : x = y := by
  injection h with h; injection h
/-- What a lookup tells. -/
theorem MapE.look {D : DataW Unit} {A : List Ent} (h : MapE D A) (k : ByteArray) {c : Int} (hat : D.atKey (litK k) (.lit (.int .i64 0)) = .lit (.int .i64 c)) : c = (match getE A k with | some v => v | none => 0) := by
  cases hg : getE A k with
  | some v => exact lit_inj (hat.symm.trans (h.val k v hg _))
  | none =>
    have hn : hasE A k = false := by
      cases hh : hasE A k with
      | false => rfl
      | true =>
        unfold getE at hg
        rw [if_pos hh] at hg
        cases hg
    have := Maps.atKey_of_not_has ((h.has k).trans hn) (.lit (.int .i64 0))
    exact lit_inj (hat.symm.trans this)

abbrev MapIs (w : World) (b n : Nat) (D : DataW Unit) : Prop := w.ownsMap Try.prog 9 (plainElem Try.prog 3) b n D
theorem map_chg {w w' : World} {l : List Nat} {b n : Nat} {D : DataW Unit} (h : MapIs w b n D) (hc : Chg l w w') (hn : b ∉ l) : MapIs w' b n D := by
  obtain ⟨es, clock, hb, r⟩ := h
  have hlt : b < w.heap.size := by
    rcases Nat.lt_or_ge b w.heap.size with h | h
    · exact h
    · rw [Array.getElem?_eq_none h] at hb; cases hb
  exact ⟨es, clock, (hc.block b hlt hn).trans hb, r⟩
theorem map_lt {w : World} {b n : Nat} {D : DataW Unit} (h : MapIs w b n D) : b < w.heap.size := by
  obtain ⟨es, clock, hb, r⟩ := h
  rcases Nat.lt_or_ge b w.heap.size with h | h
  · exact h
  · rw [Array.getElem?_eq_none h] at hb; cases hb
theorem map_ne {w : World} {b n g : Nat} {D : DataW Unit} {t : TypeId} {cs : Array Value} (h : MapIs w b n D) (hb : Blk w g t cs) : b ≠ g := by
  rintro rfl
  obtain ⟨es, clock, h1, _⟩ := h
  unfold Blk at hb
  rw [h1] at hb; cases hb
theorem map_own {w : World} {b n : Nat} {D : DataW Unit} {base : Nat} {e : TypeId} {size m : Nat} {v : Value} {xs : List Value} (h : MapIs w b n D) (ho : w.ownsRow base e size v m xs) : v.ownBlock ≠ some b := by
  intro hv
  rcases ho.2 with ⟨rfl, _⟩ | ⟨g, cap, cur, rfl, _, hg, _⟩
  · cases hv
  · simp only [Value.ownBlock, Option.some.injEq] at hv
    subst hv
    exact map_ne h (g := g) (t := e) (cs := cur) hg rfl

/-- Keys and numbers of acts as they may come in. -/
def WfA (A : List ActN) : Prop := ∀ k, k < A.length → (A.getD k actN0).key.size ≤ maxLen ∧ (Lit.int .i64 (A.getD k actN0).val).wf = true
section
variable {H : Type} {enc : TypeId × Value → H} {P : Program} {w : World} {spare : Nat → Bool} {held : Bool}
theorem open_nactsz {t e : TypeId} {f0 f1 f2 : Field} {ao : Option Addr} {len cap : Nat} {d : DataW H} {p : List MemPlace} (ht : P.underlying t = some (.slice e)) (he : P.underlying e = some (.struct #[f0, f1, f2]))
    (hone : oneCellFields P #[f0, f1, f2] = true) (hC : P.cellsOf e = 3) (h0 : P.underlying f0.type = some (.int .i64)) (h1 : P.underlying f1.type = some .string) (h2 : P.underlying f2.type = some (.int .i64))
    (h : DataW.Trod enc P w 0 spare held t (.slice ao len cap) d p) : len ≤ maxLen ∧ ∃ A : List ActN, A.length = len ∧ RdA w w.heap.size ao A ∧ WfA A := by
  obtain ⟨hl, hm, hall⟩ := open_rows ht he hone hC (by simp) h
  obtain ⟨F, hF⟩ := choose_lt (α := ActN) (n := len) (p := fun k x => (∃ b off, ao = some ⟨b, off, none⟩ ∧ b < w.heap.size ∧ w.cell? ⟨b, off + k * 3, none⟩ = some (.int .i64 x.kind) ∧ w.cell? ⟨b, off + k * 3 + 1, none⟩ = some (.string x.key) ∧
      w.cell? ⟨b, off + k * 3 + 2, none⟩ = some (.int .i64 x.val)) ∧ x.key.size ≤ maxLen ∧ (Lit.int .i64 x.val).wf = true) (fun i hi => by
    obtain ⟨b, off, e1, hb, hfl⟩ := hall i hi
    obtain ⟨v0, n0, y0, c0, t0⟩ := hfl 0 f0 rfl
    obtain ⟨v1, n1, y1, c1, t1⟩ := hfl 1 f1 rfl
    obtain ⟨v2, n2, y2, c2, t2⟩ := hfl 2 f2 rfl
    obtain ⟨x0, q0, _, _⟩ := DataW.trod_int h0 t0
    obtain ⟨x1, q1, rfl, hs1⟩ := DataW.trod_string h1 t1
    obtain ⟨x2, q2, _, hw2⟩ := DataW.trod_int h2 t2
    simp only [List.cons.injEq, and_true] at q0 q1 q2
    subst q0 q1 q2
    exact ⟨⟨x0, x1, x2⟩, ⟨b, off, e1, hb, c0, c1, c2⟩, hs1, hw2⟩)
  refine ⟨by omega, (List.range len).map F, by simp, fun k hk => ?_, fun k hk => ?_⟩
  · have hk' : k < len := by simpa using hk
    have e1 : ((List.range len).map F).getD k actN0 = F k := by simp [List.getD, hk']
    rw [e1]
    exact (hF k hk').1
  · have hk' : k < len := by simpa using hk
    have e1 : ((List.range len).map F).getD k actN0 = F k := by simp [List.getD, hk']
    rw [e1]
    exact (hF k hk').2
end

end Go.Proofs.Ythplnecnagbedaa
