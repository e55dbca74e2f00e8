/- A tree as it lies in memory: its block, two rows, a block for each leaf and each node; what keeps it; conditions: none. -/
import Derived.Test.YthplnecnagbedaaTrIns2
import Derived.Test.YthplnecnagbedaaTrScanP
namespace Go.Proofs.Ythplnecnagbedaa
open Go.RowKit

/-- insert at any place. -/
theorem insertL_any (w : World) (B : Nat) (a : Option Addr) (n k : Nat) (xs : List Value) (hx1 : ∀ u ∈ xs, u.oneCell' = true) (hown : w.ownsRow B 109 1 (.slice a n k) n xs) (hB : B ≤ w.heap.size) (hn : n ≤ 100000) (i : Nat) (hi : i ≤ n) (vb : Nat) (p : Value) (hp1 : p.oneCell' = true) (hv : Blk w vb 109 #[p]) (hva : (Value.slice a n k).ownBlock ≠ some vb) :
    Calls Try.prog 77 #[.slice a n k, .int .i64 i, .slice (some ⟨vb, 0, none⟩) 1 1] w (InsPost w B (.slice a n k) n (xs.take i ++ p :: xs.drop i)) := by
  have hxl : xs.length = n := by have := hown.1; omega
  by_cases hin : i = n
  · subst hin
    rw [List.take_of_length_le (by omega), List.drop_of_length_le (by omega)]
    exact insert_end w B a i k xs hown hB hn vb p hp1 hv
  · obtain ⟨g, rfl, _⟩ := own_at hown (by omega)
    by_cases hk : k < n + 1
    · exact insert_grow w B g n k xs hx1 hown hB hn i (by omega) hk vb p hp1 hv
    · exact insert_room w B g n k xs hx1 hown hn i (by omega) (by omega) vb p hp1 hv (fun e => hva (by rw [e]; rfl))

abbrev ptr (b : Nat) : Value := .pointer (some ⟨b, 0, none⟩)
structure TrM where
  tb : Nat
  a : Option Addr
  k : Nat
  a2 : Option Addr
  k2 : Nat
  P : List (Nat × Nat)
def TrM.lb (M : TrM) (j : Nat) : Nat := (M.P.getD j (0, 0)).1
def TrM.nb (M : TrM) (j : Nat) : Nat := (M.P.getD j (0, 0)).2
def TrM.F (M : TrM) : List Nat := M.tb :: ((M.a.toList ++ M.a2.toList).map (·.block) ++ (M.P.map (·.1) ++ M.P.map (·.2)))
structure TreeAt (B : Nat) (w : World) (M : TrM) (T : Tr) (n : Nat) : Prop where
  blk : Blk w M.tb 106 #[.slice M.a T.length M.k, .slice M.a2 T.length M.k2, .int .i64 (n : Nat)]
  rowL : w.ownsRow B 109 1 (.slice M.a T.length M.k) T.length (T.map fun l => ptr (M.lb l.num))
  rowN : w.ownsRow B 109 1 (.slice M.a2 T.length M.k2) T.length (M.P.map fun p => ptr p.1)
  leaf : ∀ l ∈ T, Blk w (M.lb l.num) 111 #[.int .i64 (l.num : Nat), .string l.least, ptr (M.nb l.num)]
  node : ∀ l ∈ T, Blk w (M.nb l.num) 95 (ndCells l.nd)
  nds : (M.P.map (·.2)).Nodup
  len : M.P.length = T.length
  two : ∀ q, (Value.slice M.a T.length M.k).ownBlock = some q → (Value.slice M.a2 T.length M.k2).ownBlock ≠ some q
  nums : Nums T
  base : B ≤ M.tb ∧ ∀ p ∈ M.P, B ≤ p.1 ∧ B ≤ p.2
theorem ptr_one (xs : List Nat) : ∀ u ∈ xs.map ptr, u.oneCell' = true := by
  intro u hu
  obtain ⟨x, _, rfl⟩ := List.mem_map.1 hu
  rfl

section
variable {B n : Nat} {w w' : World} {M : TrM} {T T1 T2 : Tr} {l : Lf}
theorem TreeAt.at (h : TreeAt B w M T n) {j : Nat} (hj : j < T.length) : M.P[j]? = some (M.lb j, M.nb j) := by
  have hl : j < M.P.length := by rw [h.len]; exact hj
  simp [TrM.lb, TrM.nb, List.getD, hl]
theorem TreeAt.lbF (h : TreeAt B w M T n) {l : Lf} (hl : l ∈ T) : M.lb l.num ∈ M.F := by
  have := List.mem_of_getElem? (h.at (h.nums.lt l hl))
  unfold TrM.F
  simp only [List.mem_cons, List.mem_append, List.mem_map]
  exact .inr (.inr (.inl ⟨_, this, rfl⟩))
theorem TreeAt.nbF (h : TreeAt B w M T n) {l : Lf} (hl : l ∈ T) : M.nb l.num ∈ M.F := by
  have := List.mem_of_getElem? (h.at (h.nums.lt l hl))
  unfold TrM.F
  simp only [List.mem_cons, List.mem_append, List.mem_map]
  exact .inr (.inr (.inr ⟨_, this, rfl⟩))
theorem TreeAt.tbF (M : TrM) : M.tb ∈ M.F := by unfold TrM.F; simp
theorem own_some {a : Option Addr} {n k q : Nat} (h : (Value.slice a n k).ownBlock = some q) : ∃ ad, a = some ad ∧ ad.block = q := by
  cases a with
  | none => cases h
  | some ad => injection h with h; exact ⟨ad, rfl, h⟩
theorem TreeAt.aF {q : Nat} (h : (Value.slice M.a T.length M.k).ownBlock = some q) : q ∈ M.F := by
  obtain ⟨ad, e, rfl⟩ := own_some h
  unfold TrM.F
  simp [e]
theorem TreeAt.a2F {q : Nat} (h : (Value.slice M.a2 T.length M.k2).ownBlock = some q) : q ∈ M.F := by
  obtain ⟨ad, e, rfl⟩ := own_some h
  unfold TrM.F
  simp [e]
/-- What each of the tree's blocks is. -/
theorem TreeAt.kind (h : TreeAt B w M T n) {q : Nat} (hq : q ∈ M.F) : ∃ t cs, Blk w q t cs ∧ (t = 106 ∨ t = 109 ∨ t = 111 ∨ t = 95) ∧ B ≤ q := by
  unfold TrM.F at hq
  simp only [List.map_append, List.mem_cons, List.mem_append] at hq
  have hrow : ∀ (a : Option Addr) (k : Nat) xs, w.ownsRow B 109 1 (.slice a T.length k) T.length xs → q ∈ a.toList.map (·.block) → ∃ t cs, Blk w q t cs ∧ (t = 106 ∨ t = 109 ∨ t = 111 ∨ t = 95) ∧ B ≤ q := fun a k xs ho hq => by
    cases a with
    | none => simp at hq
    | some ad =>
      simp at hq
      rcases ho.2 with ⟨e, _⟩ | ⟨g, cap, cur, e, hb, hg, _⟩
      · cases e
      · injection e with e
        injection e with e
        have hgq : q = g := by rw [hq, e]
        subst hgq
        exact ⟨109, cur, hg, .inr (.inl rfl), hb⟩
  have hP : ∀ p ∈ M.P, ∃ l ∈ T, p = (M.lb l.num, M.nb l.num) := fun p hp => by
    obtain ⟨j, hj, e⟩ := List.getElem_of_mem hp
    obtain ⟨l, hl, e2⟩ := h.nums.sur (j := j) (by rw [← h.len]; exact hj)
    refine ⟨l, hl, ?_⟩
    have := h.at (j := j) (by rw [← h.len]; exact hj)
    rw [List.getElem?_eq_getElem hj, e] at this
    injection this with this
    rw [this, e2]
  rcases hq with rfl | (hq | hq) | hq | hq
  · exact ⟨_, _, h.blk, .inl rfl, h.base.1⟩
  · exact hrow _ _ _ h.rowL hq
  · exact hrow _ _ _ h.rowN hq
  · obtain ⟨p, hp, rfl⟩ := List.mem_map.1 hq
    obtain ⟨l, hl, rfl⟩ := hP p hp
    exact ⟨_, _, h.leaf l hl, .inr (.inr (.inl rfl)), (h.base.2 _ hp).1⟩
  · obtain ⟨p, hp, rfl⟩ := List.mem_map.1 hq
    obtain ⟨l, hl, rfl⟩ := hP p hp
    exact ⟨_, _, h.node l hl, .inr (.inr (.inr rfl)), (h.base.2 _ hp).2⟩
def NoTr (t : TypeId) : Prop := t ≠ 106 ∧ t ≠ 109 ∧ t ≠ 111 ∧ t ≠ 95
theorem TreeAt.far (h : TreeAt B w M T n) {g : Nat} {t : TypeId} {cs : Array Value} (hb : Blk w g t cs) (ht : NoTr t) : g ∉ M.F := fun hq => by
  obtain ⟨t', cs', hb', ht', _⟩ := h.kind hq
  have hne : t ≠ t' := by
    obtain ⟨h1, h2, h3, h4⟩ := ht
    rintro rfl
    rcases ht' with e | e | e | e <;> contradiction
  exact Blk.ne hb hb' hne rfl
theorem TreeAt.lt (h : TreeAt B w M T n) {q : Nat} (hq : q ∈ M.F) : q < w.heap.size := by
  obtain ⟨_, _, hb, _⟩ := h.kind hq
  exact hb.lt
theorem TreeAt.ge (h : TreeAt B w M T n) {q : Nat} (hq : q ∈ M.F) : B ≤ q := by
  obtain ⟨_, _, _, _, hb⟩ := h.kind hq
  exact hb
theorem TreeAt.ownFar (h : TreeAt B w M T n) {B' : Nat} {e : TypeId} {z m : Nat} {v : Value} {xs : List Value} (ho : w.ownsRow B' e z v m xs) (ht : NoTr e) : ∀ q, v.ownBlock = some q → q ∉ M.F := fun q hq => by
  rcases ho.2 with ⟨rfl, _⟩ | ⟨g, cap, cur, rfl, _, hg, _⟩
  · cases hq
  · injection hq with hq
    subst hq
    exact h.far hg ht
/-- Whatever leaves the tree's blocks alone leaves the tree. -/
theorem TreeAt.chg {L : List Nat} (h : TreeAt B w M T n) (hc : Chg L w w') (hl : ∀ q ∈ M.F, q ∉ L) : TreeAt B w' M T n :=
  ⟨h.blk.chg hc (hl _ (TreeAt.tbF M)), own_chg h.rowL hc (fun q hq => hl q (TreeAt.aF hq)), own_chg h.rowN hc (fun q hq => hl q (TreeAt.a2F hq)), fun l hm => (h.leaf l hm).chg hc (hl _ (h.lbF hm)), fun l hm => (h.node l hm).chg hc (hl _ (h.nbF hm)), h.nds, h.len, h.two, h.nums, h.base⟩
theorem TreeAt.below (h : TreeAt B w M T n) (hb : Below w.heap.size w w') : TreeAt B w' M T n := h.chg (Chg.of_below hb []) (by simp)
theorem TreeAt.drewN (h : TreeAt B w M T n) (q : Nat) : TreeAt B (w.drewN q) M T n := h.chg ((Chg.refl [] w).drewN q) (by simp)
theorem TreeAt.nbNe (h : TreeAt B w M T n) {l m : Lf} (hl : l ∈ T) (hm : m ∈ T) (hne : m.num ≠ l.num) : M.nb m.num ≠ M.nb l.num := by
  have h1 := h.at (h.nums.lt l hl)
  have h2 := h.at (h.nums.lt m hm)
  obtain ⟨i1, e1⟩ := List.getElem?_eq_some_iff.1 h1
  obtain ⟨i2, e2⟩ := List.getElem?_eq_some_iff.1 h2
  intro e
  have hp := List.pairwise_iff_getElem.1 h.nds
  have g1 : l.num < (M.P.map (·.2)).length := by simpa using i1
  have g2 : m.num < (M.P.map (·.2)).length := by simpa using i2
  have f1 : (M.P.map (·.2))[l.num] = M.nb l.num := by simp [e1]
  have f2 : (M.P.map (·.2))[m.num] = M.nb m.num := by simp [e2]
  rcases Nat.lt_or_gt_of_ne hne with hlt | hlt
  · exact hp _ _ g2 g1 hlt (by rw [f1, f2, e])
  · exact hp _ _ g1 g2 hlt (by rw [f1, f2, e])
/-- One leaf's node turned. -/
theorem TreeAt.setNode (h : TreeAt B w M (T1 ++ l :: T2) n) {N' : Nd} (hb : Blk w' (M.nb l.num) 95 (ndCells N')) (hc : Chg [M.nb l.num] w w') : TreeAt B w' M (T1 ++ ⟨l.num, l.least, N'⟩ :: T2) n := by
  have hl : l ∈ T1 ++ l :: T2 := by simp
  have hN := h.node l hl
  have e : (T1 ++ ⟨l.num, l.least, N'⟩ :: T2).length = (T1 ++ l :: T2).length := by simp
  have hlen := h.len
  have e2 : ((T1 ++ ⟨l.num, l.least, N'⟩ :: T2).map fun l => ptr (M.lb l.num)) = ((T1 ++ l :: T2).map fun l => ptr (M.lb l.num)) := by simp
  have hnd := h.nums.nd
  have hother : ∀ m, m ∈ T1 ∨ m ∈ T2 → m ∈ T1 ++ l :: T2 ∧ m.num ≠ l.num := fun m hm => by
    rw [List.map_append, List.map_cons] at hnd
    obtain ⟨_, n2, n3⟩ := List.nodup_append.1 hnd
    rcases hm with hm | hm
    · exact ⟨by simp [hm], n3 _ (List.mem_map.2 ⟨m, hm, rfl⟩) _ (by simp)⟩
    · exact ⟨by simp [hm], fun e => (List.nodup_cons.1 n2).1 (List.mem_map.2 ⟨m, hm, e⟩)⟩
  refine ⟨?_, ?_, ?_, fun m hm => ?_, fun m hm => ?_, h.nds, by rw [e]; exact h.len, by rw [e]; exact h.two, nums_set h.nums, h.base⟩
  · rw [e]; exact h.blk.chg hc (by simpa using Blk.ne h.blk hN (by decide))
  · rw [e, e2]
    exact own_chg h.rowL hc (fun q hq hm => by simp at hm; subst hm; exact own_ne h.rowL hN (by decide) hq.symm)
  · rw [e]
    exact own_chg h.rowN hc (fun q hq hm => by simp at hm; subst hm; exact own_ne h.rowN hN (by decide) hq.symm)
  · have hm' : ∃ m' ∈ T1 ++ l :: T2, m'.num = m.num ∧ m'.least = m.least := by
      rcases List.mem_append.1 hm with hm | hm
      · exact ⟨m, by simp [hm], rfl, rfl⟩
      · rcases List.mem_cons.1 hm with rfl | hm
        · exact ⟨l, hl, rfl, rfl⟩
        · exact ⟨m, by simp [hm], rfl, rfl⟩
    obtain ⟨m', hmem, q1, q2⟩ := hm'
    rw [← q1, ← q2]
    exact (h.leaf m' hmem).chg hc (by simpa using Blk.ne (h.leaf m' hmem) hN (by decide))
  · rcases List.mem_append.1 hm with hm | hm
    · obtain ⟨g1, g2⟩ := hother m (.inl hm)
      exact (h.node m g1).chg hc (by simpa using h.nbNe hl g1 g2)
    · rcases List.mem_cons.1 hm with rfl | hm
      · exact hb
      · obtain ⟨g1, g2⟩ := hother m (.inr hm)
        exact (h.node m g1).chg hc (by simpa using h.nbNe hl g1 g2)
theorem TreeAt.setMany (h : TreeAt B w M T n) (n' : Nat) : TreeAt B (w.setCell ⟨M.tb, 2, none⟩ (.int .i64 (n' : Nat))) M T n' := by
  have hc : Chg [M.tb] w (w.setCell ⟨M.tb, 2, none⟩ (.int .i64 (n' : Nat))) := (Chg.refl _ w).setCell (.inl (by simp)) _
  have hfar : ∀ {g : Nat} {t : TypeId} {cs : Array Value}, Blk w g t cs → t ≠ 106 → g ∉ [M.tb] := fun hb ht => by simpa using Blk.ne hb h.blk ht
  refine ⟨h.blk.set 2 _, own_chg h.rowL hc (fun q hq hm => ?_), own_chg h.rowN hc (fun q hq hm => ?_), fun l hm => (h.leaf l hm).chg hc (hfar (h.leaf l hm) (by decide)), fun l hm => (h.node l hm).chg hc (hfar (h.node l hm) (by decide)), h.nds, h.len, h.two, h.nums, h.base⟩
  · simp at hm; subst hm; exact own_ne h.rowL h.blk (by decide) hq.symm
  · simp at hm; subst hm; exact own_ne h.rowN h.blk (by decide) hq.symm
/-- What the code finds at a leaf's place. -/
theorem TreeAt.look (h : TreeAt B w M T n) (e : T = T1 ++ l :: T2) : ∃ b, M.a = some ⟨b, 0, none⟩ ∧ b < w.heap.size ∧ w.cell? ⟨b, T1.length, none⟩ = some (ptr (M.lb l.num)) ∧ Blk w (M.lb l.num) 111 #[.int .i64 (l.num : Nat), .string l.least, ptr (M.nb l.num)] ∧ Blk w (M.nb l.num) 95 (ndCells l.nd) := by
  have hl : l ∈ T := by rw [e]; simp
  have hn : 0 < T.length := by rw [e]; simp; omega
  obtain ⟨g, e1, _, hg, hc⟩ := own_at h.rowL hn
  refine ⟨g, e1, hg, hc T1.length _ ?_, h.leaf l hl, h.node l hl⟩
  rw [e]
  simp
end

/-- A tree that became another one. -/
def TrTo (B : Nat) (w : World) (M : TrM) (T' : Tr) (n' : Nat) (w' : World) : Prop :=
  ∃ M', TreeAt B w' M' T' n' ∧ M'.tb = M.tb ∧ (∀ q ∈ M'.F, q ∈ M.F ∨ w.heap.size ≤ q) ∧ Chg M.F w w'

end Go.Proofs.Ythplnecnagbedaa
