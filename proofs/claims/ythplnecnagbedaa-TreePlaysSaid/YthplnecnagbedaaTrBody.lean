/- What a scan has in memory, and what its rounds do to it; conditions: none. -/
import Derived.Test.YthplnecnagbedaaTrTake
namespace Go.Proofs.Ythplnecnagbedaa
open Go.RowKit

def seenCells (S : List (Nat × Nat × Nat)) : List Value := S.flatMap fun s => (seenC s).toList
theorem seenCells_len (S : List (Nat × Nat × Nat)) : (seenCells S).length = S.length * 3 := by
  induction S with
  | nil => rfl
  | cons s S ih =>
    have : seenCells (s :: S) = (seenC s).toList ++ seenCells S := rfl
    rw [this, List.length_append, ih]
    simp [seenC]
    omega
theorem seenCells_snoc (S : List (Nat × Nat × Nat)) (s : Nat × Nat × Nat) : seenCells (S ++ [s]) = seenCells S ++ (seenC s).toList := by simp [seenCells]
/-- The scan's three variables and their rows. -/
structure ScMem (n1 k8 k9 k10 : Nat) (W : World) (st : ScS) (a8 : Option Addr) (c8 : Nat) (a9 : Option Addr) (c9 : Nat) (a10 : Option Addr) (c10 : Nat) : Prop where
  two : TwoS n1 k8 k9 (.slice a8 st.A.length c8) (.slice a9 st.A.length c9) W (.slice a8 st.A.length c8) st.A.length (st.A.map fun e => .string e.1) (.slice a9 st.A.length c9) st.A.length (st.A.map fun e => .int .i64 e.2)
  b10 : Blk W k10 63 #[.slice a10 st.S.length c10]
  o10 : W.ownsRow n1 118 3 (.slice a10 st.S.length c10) st.S.length (seenCells st.S)
/-- How the blocks lie. -/
structure ScD (M : TrM) (n0 n1 q5 q6 q7 q12 k8 k9 k10 : Nat) : Prop where
  le : n0 ≤ n1
  k : n0 ≤ k8 ∧ n0 ≤ k9 ∧ n0 ≤ k10
  kl : k8 < n1 ∧ k9 < n1 ∧ k10 < n1
  q : q5 < n1 ∧ q6 < n1 ∧ q7 < n1 ∧ q12 < n1
  ne5 : q5 ≠ k8 ∧ q5 ≠ k9 ∧ q5 ≠ k10
  ne6 : q6 ≠ k8 ∧ q6 ≠ k9 ∧ q6 ≠ k10
  ne7 : q7 ≠ k8 ∧ q7 ≠ k9 ∧ q7 ≠ k10
  ne12 : q12 ≠ k8 ∧ q12 ≠ k9 ∧ q12 ≠ k10
  tree : ∀ q ∈ M.F, q < n0
/-- What stays. -/
structure ScC (w : World) (B nn : Nat) (M : TrM) (T : Tr) (fr tk : ByteArray) (most n0 n1 q5 q6 q7 q12 k8 k9 : Nat) (W : World) : Prop where
  b5 : Blk W q5 9 #[.string fr]
  b6 : Blk W q6 9 #[.string tk]
  b7 : Blk W q7 3 #[.int .i64 (most : Nat)]
  b12 : Blk W q12 113 #[.func (.func 64) #[] #[.pointer (some ⟨k8, 0, none⟩), .pointer (some ⟨k9, 0, none⟩)]]
  tree : TreeAt B W M T nn
  bel : Below n0 w W
  sz : n1 ≤ W.heap.size
/-- What a round may do. -/
structure BodyR (L : List Nat) (W W' : World) : Prop where
  sck : ScK L W W'
  oth : KeepsOthers W W'
theorem BodyR.refl (L : List Nat) (W : World) : BodyR L W W := ⟨ScK.refl L W, KeepsOthers.refl W⟩
theorem BodyR.trans {L : List Nat} {A B C : World} (h : BodyR L A B) (g : BodyR L B C) : BodyR L A C := ⟨h.sck.trans g.sck, h.oth.trans g.oth⟩
theorem BodyR.below {L : List Nat} {W W' : World} (hL : ∀ c ∈ L, c < W.heap.size) (h : Below W.heap.size W W') : BodyR L W W' :=
  ⟨ScK.below hL h, h.size, fun k _o hk _ => (h.block k (heap_lt hk)).trans hk⟩
theorem BodyR.drewN {L : List Nat} {W W' : World} (h : BodyR L W W') (q : Nat) : BodyR L W (W'.drewN q) :=
  ⟨⟨h.sck.os, h.sck.tape, h.sck.output, h.sck.size, h.sck.keep, h.sck.rch⟩, h.oth.size, h.oth.same⟩
theorem keepsOthers_list {W W' : World} {l : List Nat} (hc : Chg l W W') (hl : ∀ q ∈ l, ∃ t cs, Blk W q t cs) : KeepsOthers W W' :=
  ⟨hc.size, fun k o hk ho => by
    refine (hc.block k (heap_lt hk) fun hm => ?_).trans hk
    obtain ⟨t, cs, hb⟩ := hl k hm
    unfold Blk at hb
    rw [hk] at hb
    injection hb with hb
    rw [hb] at ho
    cases ho⟩

section
variable {w W W' : World} {B nn most n0 n1 q5 q6 q7 q12 k8 k9 k10 : Nat} {M : TrM} {T : Tr} {fr tk : ByteArray} {st : ScS} {a8 a9 a10 : Option Addr} {c8 c9 c10 : Nat} {l : List Nat}
theorem ScC.chg (hD : ScD M n0 n1 q5 q6 q7 q12 k8 k9 k10) (h : ScC w B nn M T fr tk most n0 n1 q5 q6 q7 q12 k8 k9 W) (hc : Chg l W W') (hl : ∀ q ∈ l, q = k8 ∨ q = k9 ∨ q = k10 ∨ n1 ≤ q) : ScC w B nn M T fr tk most n0 n1 q5 q6 q7 q12 k8 k9 W' := by
  obtain ⟨d1, d2, d3, d4, d5, d6, d7, d8, d9⟩ := hD
  have hn : ∀ q, q < n1 → q ≠ k8 ∧ q ≠ k9 ∧ q ≠ k10 → q ∉ l := fun q h1 h2 hm => by
    rcases hl q hm with e | e | e | e
    · exact h2.1 e
    · exact h2.2.1 e
    · exact h2.2.2 e
    · omega
  have hge : ∀ q ∈ l, n0 ≤ q := fun q hm => by
    rcases hl q hm with rfl | rfl | rfl | e
    · exact d2.1
    · exact d2.2.1
    · exact d2.2.2
    · omega
  have hz := h.sz
  exact ⟨h.b5.chg hc (hn _ d4.1 d5), h.b6.chg hc (hn _ d4.2.1 d6), h.b7.chg hc (hn _ d4.2.2.1 d7), h.b12.chg hc (hn _ d4.2.2.2 d8), h.tree.chg hc (fun q hq hm => by have := d9 q hq; have := hge q hm; omega), below_chg h.bel hc (by omega) hge, Nat.le_trans hz hc.size⟩
theorem own_some' {a : Option Addr} {n k q : Nat} (h : q ∈ (Value.slice a n k).ownBlock.toList) : (Value.slice a n k).ownBlock = some q := by simpa using h
theorem own_blk {n1 : Nat} {e : TypeId} {z m : Nat} {v : Value} {xs : List Value} {q : Nat} (h : W.ownsRow n1 e z v m xs) (hq : v.ownBlock = some q) : ∃ cs, Blk W q e cs ∧ n1 ≤ q := by
  rcases h.2 with ⟨rfl, _⟩ | ⟨g, cap, cur, rfl, hb, hg, _⟩
  · cases hq
  · injection hq with hq
    subst hq
    exact ⟨cur, hg, hb⟩
theorem rch3 {k : Nat} {s8 s9 s10 : Value} (h8 : W.cell? ⟨k8, 0, none⟩ = some s8) (h9 : W.cell? ⟨k9, 0, none⟩ = some s9) (h10 : W.cell? ⟨k10, 0, none⟩ = some s10) (hr : Rch [k8, k9, k10] W k) : s8.ownBlock = some k ∨ s9.ownBlock = some k ∨ s10.ownBlock = some k := by
  obtain ⟨c, hc, v, hv, hk⟩ := hr
  simp at hc
  rcases hc with rfl | rfl | rfl
  · rw [h8] at hv; injection hv with hv; subst hv; exact .inl hk
  · rw [h9] at hv; injection hv with hv; subst hv; exact .inr (.inl hk)
  · rw [h10] at hv; injection hv with hv; subst hv; exact .inr (.inr hk)
/-- Behind the closure that takes a key. -/
theorem tk_next (hD : ScD M n0 n1 q5 q6 q7 q12 k8 k9 k10) (hC : ScC w B nn M T fr tk most n0 n1 q5 q6 q7 q12 k8 k9 W) (hM : ScMem n1 k8 k9 k10 W st a8 c8 a9 c9 a10 c10) {k : ByteArray} {v : Int} {e : Ending}
    (hP : TkPost n1 k8 k9 W a8 c8 a9 c9 st.A.length ((st.A.map fun e => Value.string e.1) ++ [.string k]) ((st.A.map fun e => Value.int .i64 e.2) ++ [.int .i64 v]) e W') :
    e = .returned (.tuple #[]) ∧ ScC w B nn M T fr tk most n0 n1 q5 q6 q7 q12 k8 k9 W' ∧ BodyR [k8, k9, k10] W W' ∧ ∃ b8 d8 b9 d9, ScMem n1 k8 k9 k10 W' ⟨st.A ++ [(k, v)], st.S⟩ b8 d8 b9 d9 a10 c10 := by
  obtain ⟨he, g8, d8, g9, d9, hT, h8, h9, hc⟩ := hP
  have hl : ∀ q ∈ k8 :: k9 :: ((Value.slice a8 st.A.length c8).ownBlock.toList ++ (Value.slice a9 st.A.length c9).ownBlock.toList), q = k8 ∨ q = k9 ∨ (Value.slice a8 st.A.length c8).ownBlock = some q ∨ (Value.slice a9 st.A.length c9).ownBlock = some q := fun q hq => by
    simp only [List.mem_cons, List.mem_append] at hq
    rcases hq with h | h | h | h
    · exact .inl h
    · exact .inr (.inl h)
    · exact .inr (.inr (.inl (own_some' h)))
    · exact .inr (.inr (.inr (own_some' h)))
  have hn10 : k10 ∉ k8 :: k9 :: ((Value.slice a8 st.A.length c8).ownBlock.toList ++ (Value.slice a9 st.A.length c9).ownBlock.toList) := fun hm => by
    rcases hl _ hm with h | h | h | h
    · exact Blk.ne hM.b10 hM.two.b8 (by decide) h
    · exact Blk.ne hM.b10 hM.two.b9 (by decide) h
    · exact own_ne hM.two.o8 hM.b10 (by decide) h.symm
    · exact own_ne hM.two.o9 hM.b10 (by decide) h.symm
  have hb10 := hM.b10.chg hc hn10
  have ho10 := own_chg hM.o10 hc (fun q hq hm => by
    rcases hl _ hm with h | h | h | h
    · subst h; exact own_ne hM.o10 hM.two.b8 (by decide) hq.symm
    · subst h; exact own_ne hM.o10 hM.two.b9 (by decide) hq.symm
    · exact own_own hM.o10 hM.two.o8 (by decide) q hq h
    · exact own_own hM.o10 hM.two.o9 (by decide) q hq h)
  refine ⟨he, hC.chg hD hc (fun q hq => ?_), ⟨⟨hc.os, hc.tape, hc.output, hc.size, fun k' o hk _ hL hr => ?_, fun k' hr => ?_⟩, keepsOthers_list hc (fun q hq => ?_)⟩, some ⟨g8, 0, none⟩, d8, some ⟨g9, 0, none⟩, d9, ?_, hb10, ho10⟩
  · rcases hl q hq with h | h | h | h
    · exact .inl h
    · exact .inr (.inl h)
    · exact .inr (.inr (.inr (hM.two.o8.lt q h).1))
    · exact .inr (.inr (.inr (hM.two.o9.lt q h).1))
  · refine (hc.block k' (heap_lt hk) fun hm => ?_).trans hk
    simp only [List.mem_cons, List.not_mem_nil, or_false, not_or] at hL
    rcases hl k' hm with h | h | h | h
    · exact hL.1 h
    · exact hL.2.1 h
    · exact hr ⟨k8, by simp, _, hM.two.b8.at 0 rfl, h⟩
    · exact hr ⟨k9, by simp, _, hM.two.b9.at 0 rfl, h⟩
  · rcases rch3 (hT.b8.at 0 rfl) (hT.b9.at 0 rfl) (hb10.at 0 rfl) hr with h | h | h
    · have hlt := (hT.o8.lt k' h).2
      injection h with h
      subst h
      rcases h8 with e | e
      · exact .inl ⟨k8, by simp, _, hM.two.b8.at 0 rfl, e⟩
      · exact .inr ⟨e, hlt⟩
    · have hlt := (hT.o9.lt k' h).2
      injection h with h
      subst h
      rcases h9 with e | e
      · exact .inl ⟨k9, by simp, _, hM.two.b9.at 0 rfl, e⟩
      · exact .inr ⟨e, hlt⟩
    · exact .inl ⟨k10, by simp, _, hM.b10.at 0 rfl, h⟩
  · rcases hl q hq with h | h | h | h
    · exact ⟨_, _, by rw [h]; exact hM.two.b8⟩
    · exact ⟨_, _, by rw [h]; exact hM.two.b9⟩
    · obtain ⟨cs, hb, _⟩ := own_blk hM.two.o8 h; exact ⟨_, _, hb⟩
    · obtain ⟨cs, hb, _⟩ := own_blk hM.two.o9 h; exact ⟨_, _, hb⟩
  · have hlen : (st.A ++ [(k, v)]).length = st.A.length + 1 := by simp
    rw [hlen]
    simpa using hT
/-- Behind the note of a leaf. -/
theorem seen_next (hD : ScD M n0 n1 q5 q6 q7 q12 k8 k9 k10) (hC : ScC w B nn M T fr tk most n0 n1 q5 q6 q7 q12 k8 k9 W) (hM : ScMem n1 k8 k9 k10 W st a8 c8 a9 c9 a10 c10) {s : Nat × Nat × Nat} {g d : Nat}
    (hb : Blk W' k10 63 #[.slice (some ⟨g, 0, none⟩) (st.S.length + 1) d]) (ho : W'.ownsRow n1 118 3 (.slice (some ⟨g, 0, none⟩) (st.S.length + 1) d) (st.S.length + 1) (seenCells st.S ++ (seenC s).toList))
    (hg : (Value.slice a10 st.S.length c10).ownBlock = some g ∨ W.heap.size ≤ g) (hc : Chg (k10 :: (Value.slice a10 st.S.length c10).ownBlock.toList) W W') :
    ScC w B nn M T fr tk most n0 n1 q5 q6 q7 q12 k8 k9 W' ∧ BodyR [k8, k9, k10] W W' ∧ ScMem n1 k8 k9 k10 W' ⟨st.A, st.S ++ [s]⟩ a8 c8 a9 c9 (some ⟨g, 0, none⟩) d := by
  have hl : ∀ q ∈ k10 :: (Value.slice a10 st.S.length c10).ownBlock.toList, q = k10 ∨ (Value.slice a10 st.S.length c10).ownBlock = some q := fun q hq => by
    rcases List.mem_cons.1 hq with h | h
    · exact .inl h
    · exact .inr (own_some' h)
  have hb8 := hM.two.b8.chg hc (fun hm => by
    rcases hl _ hm with h | h
    · exact Blk.ne hM.two.b8 hM.b10 (by decide) h
    · exact own_ne hM.o10 hM.two.b8 (by decide) h.symm)
  have hb9 := hM.two.b9.chg hc (fun hm => by
    rcases hl _ hm with h | h
    · exact Blk.ne hM.two.b9 hM.b10 (by decide) h
    · exact own_ne hM.o10 hM.two.b9 (by decide) h.symm)
  have ho8 := own_chg hM.two.o8 hc (fun q hq hm => by
    rcases hl _ hm with h | h
    · subst h; exact own_ne hM.two.o8 hM.b10 (by decide) hq.symm
    · exact own_own hM.two.o8 hM.o10 (by decide) q hq h)
  have ho9 := own_chg hM.two.o9 hc (fun q hq hm => by
    rcases hl _ hm with h | h
    · subst h; exact own_ne hM.two.o9 hM.b10 (by decide) hq.symm
    · exact own_own hM.two.o9 hM.o10 (by decide) q hq h)
  refine ⟨hC.chg hD hc (fun q hq => ?_), ⟨⟨hc.os, hc.tape, hc.output, hc.size, fun k' o hk _ hL hr => ?_, fun k' hr => ?_⟩, keepsOthers_list hc (fun q hq => ?_)⟩, ⟨hb8, hb9, ho8, ho9, Nat.le_trans hM.two.sz hc.size⟩, ?_, ?_⟩
  · rcases hl q hq with h | h
    · exact .inr (.inr (.inl h))
    · exact .inr (.inr (.inr (hM.o10.lt q h).1))
  · refine (hc.block k' (heap_lt hk) fun hm => ?_).trans hk
    simp only [List.mem_cons, List.not_mem_nil, or_false, not_or] at hL
    rcases hl k' hm with h | h
    · exact hL.2.2 h
    · exact hr ⟨k10, by simp, _, hM.b10.at 0 rfl, h⟩
  · rcases rch3 (hb8.at 0 rfl) (hb9.at 0 rfl) (hb.at 0 rfl) hr with h | h | h
    · exact .inl ⟨k8, by simp, _, hM.two.b8.at 0 rfl, h⟩
    · exact .inl ⟨k9, by simp, _, hM.two.b9.at 0 rfl, h⟩
    · have hlt := (ho.lt k' h).2
      injection h with h
      subst h
      rcases hg with e | e
      · exact .inl ⟨k10, by simp, _, hM.b10.at 0 rfl, e⟩
      · exact .inr ⟨e, hlt⟩
  · rcases hl q hq with h | h
    · exact ⟨_, _, by rw [h]; exact hM.b10⟩
    · obtain ⟨cs, hb, _⟩ := own_blk hM.o10 h; exact ⟨_, _, hb⟩
  · have : (st.S ++ [s]).length = st.S.length + 1 := by simp
    dsimp only
    rw [this]; exact hb
  · have : (st.S ++ [s]).length = st.S.length + 1 := by simp
    dsimp only
    rw [this, seenCells_snoc]; exact ho
/-- New blocks alone. -/
theorem ScMem.below (hM : ScMem n1 k8 k9 k10 W st a8 c8 a9 c9 a10 c10) (hb : Below W.heap.size W W') : ScMem n1 k8 k9 k10 W' st a8 c8 a9 c9 a10 c10 :=
  ⟨⟨hM.two.b8.below hb hM.two.b8.lt, hM.two.b9.below hb hM.two.b9.lt, own_chg hM.two.o8 (Chg.of_below hb []) (by simp), own_chg hM.two.o9 (Chg.of_below hb []) (by simp), Nat.le_trans hM.two.sz hb.size⟩, hM.b10.below hb hM.b10.lt, own_chg hM.o10 (Chg.of_below hb []) (by simp)⟩
theorem ScC.below (h : ScC w B nn M T fr tk most n0 n1 q5 q6 q7 q12 k8 k9 W) (hn : n0 ≤ n1) (hb : Below W.heap.size W W') : ScC w B nn M T fr tk most n0 n1 q5 q6 q7 q12 k8 k9 W' :=
  ⟨h.b5.below hb h.b5.lt, h.b6.below hb h.b6.lt, h.b7.below hb h.b7.lt, h.b12.below hb h.b12.lt, h.tree.below hb, h.bel.trans (hb.mono (by have := h.sz; omega)), Nat.le_trans h.sz hb.size⟩
/-- A block that is no cells turns. -/
theorem blk_own {row : Option Nat} {g : Nat} {t : TypeId} {cs : Array Value} (hb : Blk W g t cs) (_hg : W.grownBy W' row) (hr : ∀ r, row = some r → n1 ≤ r ∧ ∃ o : Obj, W.heap[r]? = some o ∧ o.isCells = false) : some g ≠ row := fun e => by
  obtain ⟨_, o, ho, hc⟩ := hr g e.symm
  unfold Blk at hb
  rw [hb] at ho
  injection ho with ho
  rw [← ho] at hc
  cases hc
theorem own_grown {row : Option Nat} {e : TypeId} {z m : Nat} {v : Value} {xs : List Value} {b : Nat} (h : W.ownsRow b e z v m xs) (hg : W.grownBy W' row) (hr : ∀ r, row = some r → n1 ≤ r ∧ ∃ o : Obj, W.heap[r]? = some o ∧ o.isCells = false) : W'.ownsRow b e z v m xs := by
  refine ⟨h.1, ?_⟩
  rcases h.2 with h0 | ⟨g, cap, cur, rfl, hb, hbk, rest⟩
  · exact .inl h0
  · exact .inr ⟨g, cap, cur, rfl, hb, Blk.grown hbk hg (blk_own (show Blk W g e cur from hbk) hg hr), rest⟩
theorem ScMem.grown {row : Option Nat} (hM : ScMem n1 k8 k9 k10 W st a8 c8 a9 c9 a10 c10) (hg : W.grownBy W' row) (hr : ∀ r, row = some r → n1 ≤ r ∧ ∃ o : Obj, W.heap[r]? = some o ∧ o.isCells = false) : ScMem n1 k8 k9 k10 W' st a8 c8 a9 c9 a10 c10 :=
  ⟨⟨hM.two.b8.grown hg (blk_own hM.two.b8 hg hr), hM.two.b9.grown hg (blk_own hM.two.b9 hg hr), own_grown hM.two.o8 hg hr, own_grown hM.two.o9 hg hr, Nat.le_trans hM.two.sz hg.size⟩, hM.b10.grown hg (blk_own hM.b10 hg hr), own_grown hM.o10 hg hr⟩
theorem ScC.grown {row : Option Nat} (h : ScC w B nn M T fr tk most n0 n1 q5 q6 q7 q12 k8 k9 W) (hn : n0 ≤ n1) (hg : W.grownBy W' row) (hr : ∀ r, row = some r → n1 ≤ r ∧ ∃ o : Obj, W.heap[r]? = some o ∧ o.isCells = false) : ScC w B nn M T fr tk most n0 n1 q5 q6 q7 q12 k8 k9 W' :=
  ⟨h.b5.grown hg (blk_own h.b5 hg hr), h.b6.grown hg (blk_own h.b6 hg hr), h.b7.grown hg (blk_own h.b7 hg hr), h.b12.grown hg (blk_own h.b12 hg hr), h.tree.keep (fun q t cs _ hb => hb.grown hg (blk_own hb hg hr)), h.bel.grown hg (by have := h.sz; omega) (fun r e => by have := (hr r e).1; omega), Nat.le_trans h.sz hg.size⟩
end

end Go.Proofs.Ythplnecnagbedaa
