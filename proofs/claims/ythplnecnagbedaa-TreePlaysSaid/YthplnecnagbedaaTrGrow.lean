/- find, grow and New of the tree by contract; conditions: the tree lies in memory. -/
import Derived.Test.YthplnecnagbedaaTrMem
import Derived.Test.YthplnecnagbedaaTrFind
namespace Go.Proofs.Ythplnecnagbedaa
open Go.RowKit

def leastE (T : Tr) : List Ent := T.map fun l => (l.least, 0)
theorem leastE_sorted {T : Tr} (h : TrOk T) : SortedE (leastE T) := by
  unfold SortedE leastE
  rw [List.pairwise_map]
  exact h.ord
theorem find_split {T T1 T2 : Tr} {l : Lf} {k : ByteArray} (ht : TrOk T) (ha : AtLf T k T1 l T2) :
    (hasE (leastE T) k = true ∧ lbE (leastE T) k = T1.length) ∨ (hasE (leastE T) k = false ∧ lbE (leastE T) k = T1.length + 1) := by
  have ho := ht.ord
  rw [ha.eq] at ho
  obtain ⟨o1, o2, o3⟩ := List.pairwise_append.1 ho
  have h1 : ∀ e ∈ leastE T1, bl e.1 k = true := fun e he => by
    obtain ⟨m, hm, rfl⟩ := List.mem_map.1 he
    exact bl_lt_le (o3 m hm l (by simp)) ha.here
  have h2 : ∀ e ∈ leastE T2, bl e.1 k = false := fun e he => by
    obtain ⟨m, hm, rfl⟩ := List.mem_map.1 he
    exact bl_asymm (ha.next m hm)
  have e0 : leastE T = leastE T1 ++ (l.least, 0) :: leastE T2 := by rw [ha.eq]; simp [leastE]
  have l1 : (leastE T1).length = T1.length := by simp [leastE]
  have htk : (leastE T2).takeWhile (fun e => bl e.1 k) = [] := by
    cases hT : leastE T2 with
    | nil => rfl
    | cons e E => rw [List.takeWhile_cons, h2 e (by rw [hT]; simp)]; rfl
  by_cases hk : l.least = k
  · left
    have hb : bl l.least k = false := by rw [hk, bl_irrefl]
    have hlb : lbE (leastE T) k = T1.length := by
      unfold lbE
      rw [e0, List.takeWhile_append_of_pos h1, List.takeWhile_cons, hb]
      simp [l1]
    refine ⟨?_, hlb⟩
    unfold hasE
    rw [hlb, e0, ← l1]
    simp [hk]
  · right
    have hb : bl l.least k = true := by
      rcases bl_total l.least k with h | h | h
      · exact h
      · exact absurd h hk
      · rw [ha.here] at h; cases h
    have hlb : lbE (leastE T) k = T1.length + 1 := by
      unfold lbE
      rw [e0, List.takeWhile_append_of_pos h1, List.takeWhile_cons, hb]
      simp [l1, htk]
    refine ⟨?_, hlb⟩
    unfold hasE
    rw [hlb, e0]
    have : (leastE T1 ++ (l.least, 0) :: leastE T2)[T1.length + 1]? = (leastE T2)[0]? := by
      rw [← l1, List.getElem?_append_right (by omega)]
      simp
    rw [this]
    cases hT : leastE T2 with
    | nil => simp
    | cons e E =>
      have hbe : bl k e.1 = true := by
        have : e ∈ leastE T2 := by rw [hT]; simp
        obtain ⟨m, hm, rfl⟩ := List.mem_map.1 this
        exact ha.next m hm
      simp
      exact fun h => absurd h.symm (bl_ne hbe)

set_option maxRecDepth 100000 in
theorem find_tr (w : World) (B n : Nat) (M : TrM) (T T1 T2 : Tr) (l : Lf) (ht : TrOk T) (hT : TreeAt B w M T n) (hm : T.length ≤ 1000000) (k : ByteArray) (ha : AtLf T k T1 l T2) :
    Calls Try.prog 63 #[.pointer (some ⟨M.tb, 0, none⟩), .string k] w fun e w' => e = .returned (.int .i64 (T1.length : Nat)) ∧ w = w' := by
  obtain ⟨b, e1, hb, _⟩ := hT.look ha.eq
  have c0 := hT.blk.at 0 rfl
  rw [e1] at c0
  have hp : ∀ i, i < T.length → ∃ p, w.cell? ⟨b, i, none⟩ = some (.pointer (some ⟨p, 0, none⟩)) ∧ w.cell? ⟨p, 1, none⟩ = some (.string ((leastE T).getD i (emp, 0)).1) := fun i hi => by
    have eT : T = T.take i ++ T[i] :: T.drop (i + 1) := by rw [← List.drop_eq_getElem_cons hi, List.take_append_drop]
    obtain ⟨b', e1', _, h1, h2, _⟩ := hT.look eT
    rw [e1] at e1'
    injection e1' with e1'
    injection e1' with e1'
    subst e1'
    have hl : (T.take i).length = i := by rw [List.length_take]; omega
    rw [hl] at h1
    refine ⟨_, h1, ?_⟩
    have : ((leastE T).getD i (emp, 0)).1 = T[i].least := by simp [leastE, List.getD, hi]
    rw [this]
    exact h2.at 1 rfl
  have hB := bsearchL_any w b T.length M.k (leastE T) (leastE_sorted ht) (by simp [leastE]) hm k hp
  have hlt : T1.length < 1000000 := by have := congrArg List.length ha.eq; simp at this; omega
  rcases find_split ht ha with ⟨h1, h2⟩ | ⟨h1, h2⟩
  · rw [h1, h2] at hB
    clear h1 h2 hT ht hp ha e1
    generalize T1.length = j at *
    go_enter Try.func63, Try.ntmps63
    go_wp2_with (go_at_call 78; refine hB.mono ?_; rintro e w' ⟨rfl, rfl⟩)
    go_ret
    exact ⟨rfl, rfl⟩
  · rw [h1, h2] at hB
    clear h1 h2 hT ht hp ha e1
    generalize T1.length = j at *
    have hj : ((j + 1 : Nat) : Int) - 1 = (j : Int) := by omega
    go_enter Try.func63, Try.ntmps63
    go_wp2_with (go_at_call 78; refine hB.mono ?_; rintro e w' ⟨rfl, rfl⟩)
    go_ret
    exact ⟨by first | rfl | (congr 2; omega) | (apply ret_int; omega), rfl⟩

end Go.Proofs.Ythplnecnagbedaa
