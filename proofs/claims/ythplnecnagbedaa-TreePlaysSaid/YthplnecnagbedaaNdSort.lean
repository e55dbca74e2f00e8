/- Sorted lists of keys with values: putting in, taking out, finding; conditions: none. -/
import Derived.Test.YthplnecnagbedaaWords2
namespace Go.Proofs.Ythplnecnagbedaa
open Go.RowKit

theorem bsl_irrefl (x : List UInt8) : Op.bytesLess x x = false := by
  induction x with
  | nil => rfl
  | cons a x ih => simp [Op.bytesLess, ih]
theorem bsl_trans {x y z : List UInt8} (h1 : Op.bytesLess x y = true) (h2 : Op.bytesLess y z = true) : Op.bytesLess x z = true := by
  induction x generalizing y z with
  | nil =>
    cases z with
    | nil => cases y <;> simp [Op.bytesLess] at h2
    | cons c z => rfl
  | cons a x ih =>
    cases y with
    | nil => simp [Op.bytesLess] at h1
    | cons b y =>
      cases z with
      | nil => simp [Op.bytesLess] at h2
      | cons c z =>
        simp only [Op.bytesLess, Bool.or_eq_true, decide_eq_true_eq, Bool.and_eq_true, beq_iff_eq] at h1 h2 ⊢
        rcases h1 with h1 | ⟨rfl, h1⟩
        · rcases h2 with h2 | ⟨rfl, h2⟩
          · exact .inl (UInt8.lt_trans h1 h2)
          · exact .inl h1
        · rcases h2 with h2 | ⟨rfl, h2⟩
          · exact .inl h2
          · exact .inr ⟨rfl, ih h1 h2⟩
theorem bsl_total (x y : List UInt8) : Op.bytesLess x y = true ∨ x = y ∨ Op.bytesLess y x = true := by
  induction x generalizing y with
  | nil =>
    cases y with
    | nil => exact .inr (.inl rfl)
    | cons b y => exact .inl rfl
  | cons a x ih =>
    cases y with
    | nil => exact .inr (.inr rfl)
    | cons b y =>
      simp only [Op.bytesLess, Bool.or_eq_true, decide_eq_true_eq, Bool.and_eq_true, beq_iff_eq, List.cons.injEq]
      rcases UInt8.lt_or_le a b with h | h
      · exact .inl (.inl h)
      · by_cases e : a = b
        · subst e
          rcases ih y with h | h | h
          · exact .inl (.inr ⟨rfl, h⟩)
          · exact .inr (.inl ⟨rfl, h⟩)
          · exact .inr (.inr (.inr ⟨rfl, h⟩))
        · exact .inr (.inr (.inl (UInt8.lt_of_le_of_ne h (fun x => e x.symm))))

/-- a stands ahead of b. -/
def bl (a b : ByteArray) : Bool := Op.bytesLess a.toList b.toList
theorem ba_ext {a b : ByteArray} (h : a.toList = b.toList) : a = b := by
  rw [ByteArray.toList_eq, ByteArray.toList_eq] at h
  obtain ⟨⟨a⟩⟩ := a
  obtain ⟨⟨b⟩⟩ := b
  simp at h
  rw [h]
theorem bl_irrefl (a : ByteArray) : bl a a = false := bsl_irrefl _
theorem bl_trans {a b c : ByteArray} (h1 : bl a b = true) (h2 : bl b c = true) : bl a c = true := bsl_trans h1 h2
theorem bl_total (a b : ByteArray) : bl a b = true ∨ a = b ∨ bl b a = true := by
  rcases bsl_total a.toList b.toList with h | h | h
  · exact .inl h
  · exact .inr (.inl (ba_ext h))
  · exact .inr (.inr h)
theorem bl_ne {a b : ByteArray} (h : bl a b = true) : a ≠ b := by
  rintro rfl
  rw [bl_irrefl] at h
  cases h
theorem bl_asymm {a b : ByteArray} (h : bl a b = true) : bl b a = false := by
  cases h2 : bl b a with
  | false => rfl
  | true => exact absurd rfl (bl_ne (bl_trans h h2))
theorem bl_of_not {a b : ByteArray} (h : bl a b = false) (hne : a ≠ b) : bl b a = true := by
  rcases bl_total a b with h1 | h1 | h1
  · rw [h] at h1; cases h1
  · exact absurd h1 hne
  · exact h1

abbrev Ent := ByteArray × Int
def emp : ByteArray := ⟨#[]⟩
/-- Keys in order, each once. -/
def SortedE (A : List Ent) : Prop := A.Pairwise fun a b => bl a.1 b.1 = true
/-- The place of a key. -/
def lbE (A : List Ent) (k : ByteArray) : Nat := (A.takeWhile fun e => bl e.1 k).length
def hasE (A : List Ent) (k : ByteArray) : Bool := decide ((A[lbE A k]?).map (·.1) = some k)
def getE (A : List Ent) (k : ByteArray) : Option Int := if hasE A k then some ((A.getD (lbE A k) (emp, 0)).2) else none
def putE (A : List Ent) (k : ByteArray) (v : Int) : List Ent := if hasE A k then A.set (lbE A k) (k, v) else A.take (lbE A k) ++ (k, v) :: A.drop (lbE A k)
def takeE (A : List Ent) (k : ByteArray) : List Ent := if hasE A k then A.eraseIdx (lbE A k) else A

theorem lbE_le (A : List Ent) (k : ByteArray) : lbE A k ≤ A.length := (List.takeWhile_sublist _).length_le
theorem lbE_take (A : List Ent) (k : ByteArray) : A.take (lbE A k) = A.takeWhile fun e => bl e.1 k := by
  have h : A.takeWhile (fun e => bl e.1 k) ++ A.dropWhile (fun e => bl e.1 k) = A := List.takeWhile_append_dropWhile
  have h2 : (A.takeWhile (fun e => bl e.1 k) ++ A.dropWhile (fun e => bl e.1 k)).take (A.takeWhile fun e => bl e.1 k).length = A.takeWhile fun e => bl e.1 k := List.take_left
  rw [h] at h2
  exact h2
theorem lbE_drop (A : List Ent) (k : ByteArray) : A.drop (lbE A k) = A.dropWhile fun e => bl e.1 k := by
  have h : A.takeWhile (fun e => bl e.1 k) ++ A.dropWhile (fun e => bl e.1 k) = A := List.takeWhile_append_dropWhile
  have h2 : (A.takeWhile (fun e => bl e.1 k) ++ A.dropWhile (fun e => bl e.1 k)).drop (A.takeWhile fun e => bl e.1 k).length = A.dropWhile fun e => bl e.1 k := List.drop_left
  rw [h] at h2
  exact h2
theorem mem_takeWhile {α : Type} {p : α → Bool} {A : List α} : ∀ a ∈ A.takeWhile p, p a = true := by
  induction A with
  | nil => intro a h; cases h
  | cons x A ih =>
    intro a h
    rw [List.takeWhile_cons] at h
    split at h
    · rename_i hx
      rcases List.mem_cons.1 h with rfl | h
      · exact hx
      · exact ih a h
    · cases h
theorem lt_take {A : List Ent} {k : ByteArray} : ∀ e ∈ A.take (lbE A k), bl e.1 k = true := by
  rw [lbE_take]; exact mem_takeWhile
theorem mem_dropWhile {A : List Ent} {k : ByteArray} (hs : SortedE A) : ∀ e ∈ A.dropWhile (fun e => bl e.1 k), bl e.1 k = false := by
  induction A with
  | nil => intro e h; cases h
  | cons x A ih =>
    intro e h
    have hs' := List.pairwise_cons.1 hs
    rw [List.dropWhile_cons] at h
    split at h
    · exact ih hs'.2 e h
    · rename_i hx
      have hx : bl x.1 k = false := by simpa using hx
      rcases List.mem_cons.1 h with rfl | h
      · exact hx
      · cases h2 : bl e.1 k with
        | false => rfl
        | true =>
          have := bl_trans (hs'.1 e h) h2
          rw [hx] at this; cases this
theorem ge_drop {A : List Ent} {k : ByteArray} (hs : SortedE A) : ∀ e ∈ A.drop (lbE A k), bl e.1 k = false := by
  rw [lbE_drop]; exact mem_dropWhile hs
/-- The place, told by what stands ahead of it and at it. -/
theorem lbE_of {A : List Ent} {k : ByteArray} {i : Nat} (hi : i ≤ A.length) (h1 : ∀ j, j < i → bl (A.getD j (emp, 0)).1 k = true) (h2 : i < A.length → bl (A.getD i (emp, 0)).1 k = false) : lbE A k = i := by
  induction A generalizing i with
  | nil => simp at hi; subst hi; rfl
  | cons x A ih =>
    cases i with
    | zero =>
      have : bl x.1 k = false := h2 (by simp)
      unfold lbE
      rw [List.takeWhile_cons, this]; rfl
    | succ i =>
      have h0 : bl x.1 k = true := h1 0 (by omega)
      have := ih (i := i) (by simpa using hi) (fun j hj => h1 (j + 1) (by omega)) (fun hl => h2 (by simpa using hl))
      unfold lbE at this ⊢
      rw [List.takeWhile_cons, h0]
      simp [this]
theorem lbE_lt {A : List Ent} {k : ByteArray} {j : Nat} (h : j < lbE A k) : bl (A.getD j (emp, 0)).1 k = true := by
  have hl := lbE_le A k
  have hj : j < A.length := by omega
  refine lt_take (A := A) (A.getD j (emp, 0)) ?_
  have : A.getD j (emp, 0) = A[j] := by simp [List.getD, hj]
  rw [this, List.mem_take_iff_getElem]
  exact ⟨j, by omega, rfl⟩
theorem lbE_ge {A : List Ent} {k : ByteArray} {j : Nat} (hs : SortedE A) (h : lbE A k ≤ j) (hj : j < A.length) : bl (A.getD j (emp, 0)).1 k = false := by
  refine ge_drop hs (A.getD j (emp, 0)) ?_
  have : A.getD j (emp, 0) = A[j] := by simp [List.getD, hj]
  rw [this, List.mem_drop_iff_getElem]
  exact ⟨j - lbE A k, by omega, by congr 1; omega⟩
theorem has_at {A : List Ent} {k : ByteArray} (h : hasE A k = true) : ∃ v, A[lbE A k]? = some (k, v) := by
  have := of_decide_eq_true h
  obtain ⟨⟨a, v⟩, h1, h2⟩ := Option.map_eq_some_iff.1 this
  dsimp only at h2
  subst h2
  exact ⟨v, h1⟩
theorem has_lt {A : List Ent} {k : ByteArray} (h : hasE A k = true) : lbE A k < A.length := by
  obtain ⟨v, hv⟩ := has_at h
  exact (List.getElem?_eq_some_iff.1 hv).1
theorem cut_at {A : List Ent} {k : ByteArray} {v : Int} (h : A[lbE A k]? = some (k, v)) : A = A.take (lbE A k) ++ (k, v) :: A.drop (lbE A k + 1) := by
  obtain ⟨hl, he⟩ := List.getElem?_eq_some_iff.1 h
  conv => lhs; rw [← List.take_append_drop (lbE A k) A, List.drop_eq_getElem_cons hl, he]
theorem mem_has {A : List Ent} {k : ByteArray} {v : Int} (hs : SortedE A) (h : (k, v) ∈ A) : A[lbE A k]? = some (k, v) := by
  rw [← List.take_append_drop (lbE A k) A] at h
  rcases List.mem_append.1 h with h | h
  · have := lt_take _ h
    rw [bl_irrefl] at this; cases this
  · cases hd : A.drop (lbE A k) with
    | nil => rw [hd] at h; cases h
    | cons x R =>
      have hx : A[lbE A k]? = some x := by
        have := List.getElem?_drop (xs := A) (i := lbE A k) (j := 0)
        rw [hd] at this
        simpa using this.symm
      rw [hd] at h
      rcases List.mem_cons.1 h with h | h
      · rw [hx, h]
      · have hg := ge_drop (k := k) hs x (by rw [hd]; simp)
        have hs2 : SortedE (A.drop (lbE A k)) := hs.sublist (List.drop_sublist _ _)
        rw [hd] at hs2
        have := (List.pairwise_cons.1 hs2).1 _ h
        dsimp only at this
        rw [hg] at this; cases this
theorem has_iff {A : List Ent} {k : ByteArray} (hs : SortedE A) : hasE A k = true ↔ ∃ v, (k, v) ∈ A := by
  constructor
  · intro h
    obtain ⟨v, hv⟩ := has_at h
    exact ⟨v, List.mem_of_getElem? hv⟩
  · rintro ⟨v, hv⟩
    exact decide_eq_true (by rw [mem_has hs hv]; rfl)
theorem get_iff {A : List Ent} {k : ByteArray} {v : Int} (hs : SortedE A) : getE A k = some v ↔ (k, v) ∈ A := by
  constructor
  · intro h
    unfold getE at h
    split at h
    · rename_i hh
      obtain ⟨u, hu⟩ := has_at hh
      have : A.getD (lbE A k) (emp, 0) = (k, u) := by simp [List.getD, hu]
      rw [this] at h
      injection h with h
      dsimp only at h
      subst h
      exact List.mem_of_getElem? hu
    · cases h
  · intro h
    have hh : hasE A k = true := (has_iff hs).2 ⟨v, h⟩
    have := mem_has hs h
    unfold getE
    rw [if_pos hh]
    simp [List.getD, this]
theorem get_none {A : List Ent} {k : ByteArray} (hs : SortedE A) : getE A k = none ↔ ∀ v, (k, v) ∉ A := by
  constructor
  · intro h v hv
    rw [(get_iff hs).2 hv] at h; cases h
  · intro h
    cases hg : getE A k with
    | none => rfl
    | some v => exact absurd ((get_iff hs).1 hg) (h v)
theorem gt_drop {A : List Ent} {k : ByteArray} (hs : SortedE A) (hn : hasE A k = false) : ∀ e ∈ A.drop (lbE A k), bl k e.1 = true := fun e he => by
  refine bl_of_not (ge_drop hs e he) fun h => ?_
  have hm : (k, e.2) ∈ A := by
    have := List.mem_of_mem_drop he
    rw [← h]; exact this
  rw [(has_iff hs).2 ⟨_, hm⟩] at hn
  cases hn
theorem sorted_put {A : List Ent} (hs : SortedE A) (k : ByteArray) (v : Int) : SortedE (putE A k v) := by
  unfold putE
  split
  · rename_i hh
    obtain ⟨u, hu⟩ := has_at hh
    have hc := cut_at hu
    have hs2 := hs
    rw [hc] at hs2
    have hl := has_lt hh
    rw [List.set_eq_take_append_cons_drop, if_pos hl]
    unfold SortedE at hs2 ⊢
    rw [List.pairwise_append] at hs2 ⊢
    obtain ⟨h1, h2, h3⟩ := hs2
    rw [List.pairwise_cons] at h2 ⊢
    refine ⟨h1, ⟨h2.1, h2.2⟩, fun a ha b hb => ?_⟩
    rcases List.mem_cons.1 hb with rfl | hb
    · exact h3 a ha (k, u) (by simp)
    · exact h3 a ha b (by simp [hb])
  · rename_i hh
    have hh : hasE A k = false := by simpa using hh
    unfold SortedE
    rw [List.pairwise_append]
    refine ⟨hs.sublist (List.take_sublist _ _), List.pairwise_cons.2 ⟨fun e he => gt_drop hs hh e he, hs.sublist (List.drop_sublist _ _)⟩, fun a ha b hb => ?_⟩
    rcases List.mem_cons.1 hb with rfl | hb
    · exact lt_take a ha
    · exact bl_trans (lt_take a ha) (gt_drop hs hh b hb)
theorem sorted_take {A : List Ent} (hs : SortedE A) (k : ByteArray) : SortedE (takeE A k) := by
  unfold takeE
  split
  · exact hs.sublist (List.eraseIdx_sublist _ _)
  · exact hs
theorem sorted_key {A : List Ent} (hs : SortedE A) {k : ByteArray} {u v : Int} (h1 : (k, u) ∈ A) (h2 : (k, v) ∈ A) : u = v := by
  have a := mem_has hs h1
  have b := mem_has hs h2
  rw [a] at b
  injection b with b
  injection b with _ b
theorem mem_put {A : List Ent} (hs : SortedE A) (k : ByteArray) (v : Int) (a : ByteArray) (u : Int) : (a, u) ∈ putE A k v ↔ (a = k ∧ u = v) ∨ (a ≠ k ∧ (a, u) ∈ A) := by
  unfold putE
  split
  · rename_i hh
    obtain ⟨z, hz⟩ := has_at hh
    have hc := cut_at hz
    have hl := has_lt hh
    rw [List.set_eq_take_append_cons_drop, if_pos hl, List.mem_append, List.mem_cons]
    constructor
    · rintro (h | h | h)
      · exact .inr ⟨bl_ne (lt_take _ h), List.mem_of_mem_take h⟩
      · injection h with h1 h2; exact .inl ⟨h1, h2⟩
      · refine .inr ⟨fun e => ?_, List.mem_of_mem_drop h⟩
        subst e
        have hs2 := hs
        rw [hc] at hs2
        have := (List.pairwise_cons.1 (List.pairwise_append.1 hs2).2.1).1 _ h
        dsimp only at this
        rw [bl_irrefl] at this; cases this
    · rintro (⟨rfl, rfl⟩ | ⟨hne, h⟩)
      · exact .inr (.inl rfl)
      · rw [hc, List.mem_append, List.mem_cons] at h
        rcases h with h | h | h
        · exact .inl h
        · injection h with h1 _; exact absurd h1 hne
        · exact .inr (.inr h)
  · rename_i hh
    have hh : hasE A k = false := by simpa using hh
    rw [List.mem_append, List.mem_cons]
    constructor
    · rintro (h | h | h)
      · exact .inr ⟨bl_ne (lt_take _ h), List.mem_of_mem_take h⟩
      · injection h with h1 h2; exact .inl ⟨h1, h2⟩
      · exact .inr ⟨fun e => bl_ne (gt_drop hs hh _ h) e.symm, List.mem_of_mem_drop h⟩
    · rintro (⟨rfl, rfl⟩ | ⟨hne, h⟩)
      · exact .inr (.inl rfl)
      · rw [← List.take_append_drop (lbE A k) A, List.mem_append] at h
        rcases h with h | h
        · exact .inl h
        · exact .inr (.inr h)
theorem mem_take {A : List Ent} (hs : SortedE A) (k : ByteArray) (a : ByteArray) (u : Int) : (a, u) ∈ takeE A k ↔ a ≠ k ∧ (a, u) ∈ A := by
  unfold takeE
  split
  · rename_i hh
    obtain ⟨z, hz⟩ := has_at hh
    have hc := cut_at hz
    have hl := has_lt hh
    rw [List.eraseIdx_eq_take_drop_succ, List.mem_append]
    constructor
    · rintro (h | h)
      · exact ⟨bl_ne (lt_take _ h), List.mem_of_mem_take h⟩
      · refine ⟨fun e => ?_, List.mem_of_mem_drop h⟩
        subst e
        have hs2 := hs
        rw [hc] at hs2
        have := (List.pairwise_cons.1 (List.pairwise_append.1 hs2).2.1).1 _ h
        dsimp only at this
        rw [bl_irrefl] at this; cases this
    · rintro ⟨hne, h⟩
      rw [hc, List.mem_append, List.mem_cons] at h
      rcases h with h | h | h
      · exact .inl h
      · injection h with h1 _; exact absurd h1 hne
      · exact .inr h
  · rename_i hh
    refine ⟨fun h => ⟨fun e => ?_, h⟩, fun h => h.2⟩
    subst e
    exact hh ((has_iff hs).2 ⟨_, h⟩)
theorem put_len {A : List Ent} (k : ByteArray) (v : Int) : (putE A k v).length = if hasE A k then A.length else A.length + 1 := by
  unfold putE
  have := lbE_le A k
  split
  · simp
  · simp; omega
theorem take_len {A : List Ent} (k : ByteArray) : (takeE A k).length = if hasE A k then A.length - 1 else A.length := by
  unfold takeE
  split
  · rename_i hh; rw [List.length_eraseIdx, if_pos (has_lt hh)]
  · rfl
/-- Sorted lists of the same entries are the same. -/
theorem sorted_ext {A B : List Ent} (ha : SortedE A) (hb : SortedE B) (h : ∀ a u, (a, u) ∈ A ↔ (a, u) ∈ B) : A = B := by
  induction A generalizing B with
  | nil =>
    cases B with
    | nil => rfl
    | cons b B => exact absurd ((h b.1 b.2).2 (by simp)) (by simp)
  | cons a A ih =>
    cases B with
    | nil => exact absurd ((h a.1 a.2).1 (by simp)) (by simp)
    | cons b B =>
      have ha' := List.pairwise_cons.1 ha
      have hb' := List.pairwise_cons.1 hb
      have hab : a = b := by
        have h1 : a ∈ b :: B := (h a.1 a.2).1 (by simp)
        have h2 : b ∈ a :: A := (h b.1 b.2).2 (by simp)
        rcases List.mem_cons.1 h1 with h1 | h1
        · exact h1
        · rcases List.mem_cons.1 h2 with h2 | h2
          · exact h2.symm
          · exact absurd rfl (bl_ne (bl_trans (hb'.1 a h1) (ha'.1 b h2)))
      subst hab
      congr 1
      refine ih ha'.2 hb'.2 fun c u => ?_
      have hc := h c u
      simp only [List.mem_cons] at hc
      constructor
      · intro hm
        rcases hc.1 (.inr hm) with e | e
        · exact absurd (by rw [← e]) (bl_ne (ha'.1 _ hm))
        · exact e
      · intro hm
        rcases hc.2 (.inr hm) with e | e
        · exact absurd (by rw [← e]) (bl_ne (hb'.1 _ hm))
        · exact e

end Go.Proofs.Ythplnecnagbedaa
