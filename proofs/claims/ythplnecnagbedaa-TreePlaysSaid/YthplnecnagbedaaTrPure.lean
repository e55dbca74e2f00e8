/- The tree's plain model: leaves in order, each a node; what a key's leaf is; conditions: none. -/
import Derived.Test.YthplnecnagbedaaNdHalf
namespace Go.Proofs.Ythplnecnagbedaa

structure Lf where
  num : Nat
  least : ByteArray
  nd : Nd
abbrev Tr := List Lf
def entsT (T : Tr) : List Ent := T.flatMap fun l => l.nd.ents
structure TrOk (T : Tr) : Prop where
  first : ∃ l T', T = l :: T' ∧ l.least = emp
  ok : ∀ l ∈ T, NdOk l.nd
  ord : T.Pairwise fun a b => bl a.least b.least = true
  low : ∀ l ∈ T, ∀ e ∈ l.nd.ents, bl e.1 l.least = false
  high : T.Pairwise fun a b => ∀ e ∈ a.nd.ents, bl e.1 b.least = true

theorem entsT_app (A B : Tr) : entsT (A ++ B) = entsT A ++ entsT B := by simp [entsT]
theorem entsT_cons (l : Lf) (T : Tr) : entsT (l :: T) = l.nd.ents ++ entsT T := by simp [entsT]
theorem mem_entsT {T : Tr} {e : Ent} : e ∈ entsT T ↔ ∃ l ∈ T, e ∈ l.nd.ents := by simp [entsT, List.mem_flatMap]
theorem bl_emp (k : ByteArray) : bl k emp = false := by
  cases h : bl k emp with
  | false => rfl
  | true =>
    exfalso
    unfold bl at h
    have e : emp.toList = [] := by rw [ByteArray.toList_eq]; rfl
    rw [e] at h
    cases hk : k.toList with
    | nil => rw [hk] at h; exact absurd h (by simp [Op.bytesLess])
    | cons a l => rw [hk] at h; exact absurd h (by simp [Op.bytesLess])
/-- a below b, c not below b: a below c. -/
theorem bl_lt_le {a b c : ByteArray} (h1 : bl a b = true) (h2 : bl c b = false) : bl a c = true := by
  rcases bl_total c b with h | h | h
  · rw [h] at h2; cases h2
  · rw [h]; exact h1
  · exact bl_trans h1 h
theorem bl_le_lt {a b c : ByteArray} (h1 : bl b a = false) (h2 : bl b c = true) : bl a c = true := by
  rcases bl_total b a with h | h | h
  · rw [h] at h1; cases h1
  · rw [← h]; exact h2
  · exact bl_trans h h2

theorem sorted_entsT {T : Tr} (hok : ∀ l ∈ T, NdOk l.nd) (low : ∀ l ∈ T, ∀ e ∈ l.nd.ents, bl e.1 l.least = false) (high : T.Pairwise fun a b => ∀ e ∈ a.nd.ents, bl e.1 b.least = true) : SortedE (entsT T) := by
  induction T with
  | nil => exact List.Pairwise.nil
  | cons l T ih =>
    rw [entsT_cons]
    obtain ⟨h1, h2⟩ := List.pairwise_cons.1 high
    refine List.pairwise_append.2 ⟨(hok l (by simp)).sorted, ih (fun x hx => hok x (by simp [hx])) (fun x hx => low x (by simp [hx])) h2, fun a ha b hb => ?_⟩
    obtain ⟨m, hm, hbm⟩ := mem_entsT.1 hb
    exact bl_lt_le (h1 m hm a ha) (low m (by simp [hm]) b hbm)
theorem TrOk.sorted {T : Tr} (h : TrOk T) : SortedE (entsT T) := sorted_entsT h.ok h.low h.high

/-- A key's leaf parts the leaves. -/
structure AtLf (T : Tr) (k : ByteArray) (T1 : Tr) (l : Lf) (T2 : Tr) : Prop where
  eq : T = T1 ++ l :: T2
  here : bl k l.least = false
  next : ∀ m ∈ T2, bl k m.least = true
def findT (T : Tr) (k : ByteArray) : Nat := (T.takeWhile fun l => !bl k l.least).length - 1
theorem findT_at {T : Tr} (h : TrOk T) (k : ByteArray) : ∃ T1 l T2, AtLf T k T1 l T2 ∧ findT T k = T1.length := by
  obtain ⟨l0, T', rfl, he⟩ := h.first
  have hw : (l0 :: T').takeWhile (fun l => !bl k l.least) ≠ [] := by
    have : (!bl k l0.least) = true := by rw [he, bl_emp]; rfl
    rw [List.takeWhile_cons, if_pos this]; simp
  generalize hT : l0 :: T' = T at h hw
  have hs : T.takeWhile (fun l => !bl k l.least) ++ T.dropWhile (fun l => !bl k l.least) = T := List.takeWhile_append_dropWhile
  have hl := List.dropLast_concat_getLast hw
  refine ⟨(T.takeWhile fun l => !bl k l.least).dropLast, (T.takeWhile fun l => !bl k l.least).getLast hw, T.dropWhile fun l => !bl k l.least, ⟨?_, ?_, fun m hm => ?_⟩, ?_⟩
  · rw [← List.singleton_append, ← List.append_assoc, hl, hs]
  · have := List.all_eq_true.1 (List.all_takeWhile (p := fun l : Lf => !bl k l.least) (l := T)) _ (List.getLast_mem hw)
    simpa using this
  · cases hd : T.dropWhile (fun l => !bl k l.least) with
    | nil => rw [hd] at hm; cases hm
    | cons x L =>
      rw [hd] at hm
      have hx : bl k x.least = true := by
        have := List.head_dropWhile_not (fun l : Lf => !bl k l.least) (l := T) (by rw [hd]; simp)
        simp only [hd, List.head_cons] at this
        simpa using this
      rcases List.mem_cons.1 hm with rfl | hm'
      · exact hx
      · have ho := h.ord
        rw [← hs, hd] at ho
        have := (List.pairwise_cons.1 (List.pairwise_append.1 ho).2.1).1 m hm'
        exact bl_trans hx this
  · unfold findT; rw [List.length_dropLast]

section
variable {T T1 T2 : Tr} {l : Lf} {k : ByteArray}
theorem AtLf.ents (h : AtLf T k T1 l T2) : entsT T = entsT T1 ++ l.nd.ents ++ entsT T2 := by rw [h.eq, entsT_app, entsT_cons, List.append_assoc]
theorem AtLf.before (h : AtLf T k T1 l T2) (ht : TrOk T) : ∀ e ∈ entsT T1, bl e.1 k = true := fun e he => by
  obtain ⟨m, hm, hem⟩ := mem_entsT.1 he
  have := ht.high
  rw [h.eq] at this
  exact bl_lt_le ((List.pairwise_append.1 this).2.2 m hm l (by simp) e hem) h.here
theorem AtLf.behind (h : AtLf T k T1 l T2) (ht : TrOk T) : ∀ e ∈ entsT T2, bl k e.1 = true := fun e he => by
  obtain ⟨m, hm, hem⟩ := mem_entsT.1 he
  exact bl_lt_le (h.next m hm) (ht.low m (by rw [h.eq]; simp [hm]) e hem)
end

/-! One key in the middle of three. -/
section
variable {A B C : List Ent} {k : ByteArray}
theorem mid_not (h1 : ∀ e ∈ A, bl e.1 k = true) (h3 : ∀ e ∈ C, bl k e.1 = true) {v : Int} : (k, v) ∈ A ++ B ++ C ↔ (k, v) ∈ B := by
  simp only [List.mem_append]
  constructor
  · rintro ((h | h) | h)
    · exact absurd (h1 _ h) (by rw [bl_irrefl]; simp)
    · exact h
    · exact absurd (h3 _ h) (by rw [bl_irrefl]; simp)
  · exact fun h => .inl (.inr h)
theorem sorted_mid (hs : SortedE (A ++ B ++ C)) : SortedE B := (List.pairwise_append.1 (List.pairwise_append.1 hs).1).2.1
theorem get_mid (hs : SortedE (A ++ B ++ C)) (h1 : ∀ e ∈ A, bl e.1 k = true) (h3 : ∀ e ∈ C, bl k e.1 = true) : getE (A ++ B ++ C) k = getE B k := by
  apply Option.ext
  intro v
  rw [get_iff hs, get_iff (sorted_mid hs), mid_not h1 h3]
theorem has_mid (hs : SortedE (A ++ B ++ C)) (h1 : ∀ e ∈ A, bl e.1 k = true) (h3 : ∀ e ∈ C, bl k e.1 = true) : hasE (A ++ B ++ C) k = hasE B k := by
  rw [Bool.eq_iff_iff, has_iff hs, has_iff (sorted_mid hs)]
  simp only [mid_not h1 h3]
theorem sorted_sub (hs : SortedE (A ++ B ++ C)) {B' : List Ent} (hB : SortedE B') (hA : ∀ a ∈ A, ∀ b ∈ B', bl a.1 b.1 = true) (hC : ∀ b ∈ B', ∀ c ∈ C, bl b.1 c.1 = true) : SortedE (A ++ B' ++ C) := by
  obtain ⟨h1, h2, h3⟩ := List.pairwise_append.1 hs
  obtain ⟨h4, h5, h6⟩ := List.pairwise_append.1 h1
  refine List.pairwise_append.2 ⟨List.pairwise_append.2 ⟨h4, hB, hA⟩, h2, fun x hx c hc => ?_⟩
  rcases List.mem_append.1 hx with hx | hx
  · exact h3 x (by simp [hx]) c hc
  · exact hC x hx c hc
theorem put_mid (hs : SortedE (A ++ B ++ C)) (h1 : ∀ e ∈ A, bl e.1 k = true) (h3 : ∀ e ∈ C, bl k e.1 = true) (v : Int) : putE (A ++ B ++ C) k v = A ++ putE B k v ++ C := by
  have hB := sorted_mid hs
  obtain ⟨g1, g2, g3⟩ := List.pairwise_append.1 hs
  obtain ⟨g4, g5, g6⟩ := List.pairwise_append.1 g1
  refine sorted_ext (sorted_put hs k v) (sorted_sub hs (sorted_put hB k v) (fun a ha b hb => ?_) (fun b hb c hc => ?_)) fun a u => ?_
  · rcases (mem_put hB k v b.1 b.2).1 hb with ⟨e, _⟩ | ⟨_, hm⟩
    · rw [e]; exact h1 a ha
    · exact g6 a ha _ hm
  · rcases (mem_put hB k v b.1 b.2).1 hb with ⟨e, _⟩ | ⟨_, hm⟩
    · rw [e]; exact h3 c hc
    · exact g3 _ (by simp [hm]) c hc
  · rw [mem_put hs]
    simp only [List.mem_append, mem_put hB]
    by_cases e : a = k
    · subst e
      simp only [true_and, ne_eq, not_true_eq_false, false_and, or_false]
      constructor
      · exact fun h => .inl (.inr h)
      · rintro ((h | h) | h)
        · exact absurd (h1 _ h) (by rw [bl_irrefl]; simp)
        · exact h
        · exact absurd (h3 _ h) (by rw [bl_irrefl]; simp)
    · simp only [e, false_and, ne_eq, not_false_eq_true, true_and, false_or]
theorem take_mid (hs : SortedE (A ++ B ++ C)) (h1 : ∀ e ∈ A, bl e.1 k = true) (h3 : ∀ e ∈ C, bl k e.1 = true) : takeE (A ++ B ++ C) k = A ++ takeE B k ++ C := by
  have hB := sorted_mid hs
  obtain ⟨g1, g2, g3⟩ := List.pairwise_append.1 hs
  obtain ⟨g4, g5, g6⟩ := List.pairwise_append.1 g1
  refine sorted_ext (sorted_take hs k) (sorted_sub hs (sorted_take hB k) (fun a ha b hb => ?_) (fun b hb c hc => ?_)) fun a u => ?_
  · exact g6 a ha _ ((mem_take hB k b.1 b.2).1 hb).2
  · exact g3 _ (by simp [((mem_take hB k b.1 b.2).1 hb).2]) c hc
  · rw [mem_take hs]
    simp only [List.mem_append, mem_take hB]
    by_cases e : a = k
    · subst e
      simp only [ne_eq, not_true_eq_false, false_and, or_false, false_iff, not_or]
      exact ⟨fun h => absurd (h1 _ h) (by rw [bl_irrefl]; simp), fun h => absurd (h3 _ h) (by rw [bl_irrefl]; simp)⟩
    · simp only [e, ne_eq, not_false_eq_true, true_and]
end

end Go.Proofs.Ythplnecnagbedaa
