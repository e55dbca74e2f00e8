/- A node: its word, its slots' keys and values; what finding, putting in and taking out make of it; conditions: none. -/
import Derived.Test.YthplnecnagbedaaNdSort
import Derived.Test.YthplnecnagbedaaNtMvPure
namespace Go.Proofs.Ythplnecnagbedaa
open Go.RowKit

structure Nd where
  x : Nat
  K : List ByteArray
  V : List Int
  ins : Nat
  spl : Nat
def Nd.u (N : Nd) : Nat := N.x % 16
def Nd.l (N : Nd) : List Nat := slotsL N.x
def Nd.ent (N : Nd) (s : Nat) : Ent := (N.K.getD s emp, N.V.getD s 0)
def Nd.ents (N : Nd) : List Ent := (N.l.take N.u).map N.ent
def Nd.slot (N : Nd) (i : Nat) : Nat := N.l.getD i 0
structure NdOk (N : Nd) : Prop where
  lt : N.x < 18446744073709551616
  ok : OkL N.l
  kl : N.K.length = 15
  vl : N.V.length = 15
  sorted : SortedE N.ents
  big : ∀ e ∈ N.ents, e.1.size ≤ 4096
section
variable {N : Nd}
theorem NdOk.ll (_h : NdOk N) : N.l.length = 15 := slots_len N.x
theorem NdOk.u15 (_h : NdOk N) : N.u ≤ 15 := by unfold Nd.u; omega
theorem ents_len (N : Nd) : N.ents.length = N.u := by
  have := slots_len N.x
  unfold Nd.ents Nd.l
  rw [List.length_map, List.length_take]
  unfold Nd.u
  omega
theorem ents_at (N : Nd) {i : Nat} (h : i < N.u) : N.ents.getD i (emp, 0) = N.ent (N.slot i) := by
  have h2 := slots_len N.x
  have h3 : i < (slotsL N.x).length := by unfold Nd.u at h; omega
  simp [Nd.ents, Nd.slot, List.getD, h, h3, Nd.l]
theorem slot_lt (h : NdOk N) {i : Nat} (hi : i < 15) : N.slot i < 15 := by
  have h3 : i < N.l.length := by rw [h.ll]; exact hi
  have : N.slot i = N.l[i] := by simp [Nd.slot, List.getD, h3]
  rw [this]
  exact h.ok.2 _ (List.getElem_mem h3)
theorem slot_ne (h : NdOk N) {i j : Nat} (hi : i < 15) (hj : j < 15) (hne : i ≠ j) : N.slot i ≠ N.slot j := by
  have h3 : i < N.l.length := by rw [h.ll]; exact hi
  have h4 : j < N.l.length := by rw [h.ll]; exact hj
  have e1 : N.slot i = N.l[i] := by simp [Nd.slot, List.getD, h3]
  have e2 : N.slot j = N.l[j] := by simp [Nd.slot, List.getD, h4]
  rw [e1, e2]
  intro e
  have hp := List.pairwise_iff_getElem.1 h.ok.1
  rcases Nat.lt_or_gt_of_ne hne with hlt | hlt
  · exact hp i j h3 h4 hlt e
  · exact hp j i h4 h3 hlt e.symm
end

/-- Where a key lies, and its slot: -1, if it is not there. -/
def findM (N : Nd) (k : ByteArray) : Nat × Int := (lbE N.ents k, if hasE N.ents k then (N.slot (lbE N.ents k) : Int) else -1)
def getM (N : Nd) (k : ByteArray) : Int × Bool := match getE N.ents k with
  | some v => (v, true)
  | none => (0, false)
def putM (N : Nd) (k : ByteArray) (v : Int) : Nd × Int × Bool × Int :=
  if 4096 < k.size then (N, 0, false, 2)
  else if hasE N.ents k then (⟨N.x, N.K, N.V.set (N.slot (lbE N.ents k)) v, N.ins, N.spl⟩, N.V.getD (N.slot (lbE N.ents k)) 0, true, 0)
  else if N.u = 15 then (N, 0, false, 120)
  else (⟨wordL (N.u + 1) (mvL N.l N.u (lbE N.ents k)), N.K.set (N.slot N.u) k, N.V.set (N.slot N.u) v, N.ins + 1, N.spl⟩, 0, false, 0)
def takeM (N : Nd) (k : ByteArray) : Nd × Int × Int :=
  if hasE N.ents k then (⟨wordL (N.u - 1) (mvL N.l (lbE N.ents k) (N.u - 1)), N.K, N.V, N.ins + 1, N.spl⟩, N.V.getD (N.slot (lbE N.ents k)) 0, 0) else (N, 0, 5)
def keysM (N : Nd) : List ByteArray := N.ents.map (·.1)
def nd0 : Nd := ⟨17134975606245761280, List.replicate 15 emp, List.replicate 15 0, 0, 0⟩

theorem nd0_ok : NdOk nd0 := by
  have e : nd0.ents = [] := List.eq_nil_of_length_eq_zero (by rw [ents_len]; rfl)
  refine ⟨by decide, by decide, rfl, rfl, ?_, ?_⟩
  · rw [e]; exact List.Pairwise.nil
  · rw [e]; intro x hx; cases hx
theorem nd0_ents : nd0.ents = [] := List.eq_nil_of_length_eq_zero (by rw [ents_len]; rfl)

theorem ent_set {N : Nd} (h : NdOk N) {s t : Nat} (hs : s < 15) (k : ByteArray) (v : Int) (x i p : Nat) : Nd.ent ⟨x, N.K.set s k, N.V.set s v, i, p⟩ t = if s = t then (k, v) else N.ent t := by
  have h1 := h.kl
  have h2 := h.vl
  unfold Nd.ent
  dsimp only
  by_cases e : s = t
  · subst e
    rw [if_pos rfl]
    simp [List.getD, h1, h2, hs]
  · rw [if_neg e]
    simp [List.getD, e]
theorem ent_setV {N : Nd} (h : NdOk N) {s t : Nat} (hs : s < 15) (v : Int) (x i p : Nat) : Nd.ent ⟨x, N.K, N.V.set s v, i, p⟩ t = if s = t then ((N.ent t).1, v) else N.ent t := by
  have h2 := h.vl
  unfold Nd.ent
  dsimp only
  by_cases e : s = t
  · subst e
    rw [if_pos rfl]
    simp [List.getD, h2, hs]
  · rw [if_neg e]
    simp [List.getD, e]
theorem put_old {N : Nd} (h : NdOk N) {k : ByteArray} (hh : hasE N.ents k = true) (v : Int) : Nd.ents ⟨N.x, N.K, N.V.set (N.slot (lbE N.ents k)) v, N.ins, N.spl⟩ = putE N.ents k v := by
  have hl := has_lt hh
  have hu : lbE N.ents k < N.u := by rwa [ents_len] at hl
  have hu15 := h.u15
  have hs : N.slot (lbE N.ents k) < 15 := slot_lt h (by omega)
  obtain ⟨z, hz⟩ := has_at hh
  unfold putE
  rw [if_pos hh]
  apply List.ext_getElem
  · rw [ents_len, List.length_set, ents_len]; rfl
  · intro i h1 h2
    have hi : i < N.u := by rw [List.length_set, ents_len] at h2; exact h2
    have e1 : (Nd.ents ⟨N.x, N.K, N.V.set (N.slot (lbE N.ents k)) v, N.ins, N.spl⟩)[i] = Nd.ent ⟨N.x, N.K, N.V.set (N.slot (lbE N.ents k)) v, N.ins, N.spl⟩ (N.slot i) := by
      have this : (Nd.ents ⟨N.x, N.K, N.V.set (N.slot (lbE N.ents k)) v, N.ins, N.spl⟩).getD i (emp, 0) = Nd.ent ⟨N.x, N.K, N.V.set (N.slot (lbE N.ents k)) v, N.ins, N.spl⟩ (N.slot i) := ents_at _ hi
      rw [← this]
      simp [List.getD, h1]
    have e2 : N.ent (N.slot i) = N.ents[i]'(by rw [ents_len]; exact hi) := by
      rw [← ents_at N hi]
      have : i < N.ents.length := by rw [ents_len]; exact hi
      simp [List.getD, this]
    rw [e1, ent_setV h hs, List.getElem_set]
    by_cases hie : lbE N.ents k = i
    · have : N.slot (lbE N.ents k) = N.slot i := by rw [hie]
      rw [if_pos this, if_pos hie, e2]
      have hzi : N.ents[i]'(by rw [ents_len]; exact hi) = (k, z) := by
        have := (List.getElem?_eq_some_iff.1 hz).2
        simpa [hie] using this
      rw [hzi]
    · rw [if_neg (slot_ne h (by omega) (by omega) hie), if_neg hie, e2]
theorem word_new {N : Nd} (h : NdOk N) (hu : N.u < 15) {p : Nat} (hp : p ≤ N.u) : slotsL (wordL (N.u + 1) (mvL N.l N.u p)) = mvL N.l N.u p ∧ wordL (N.u + 1) (mvL N.l N.u p) % 16 = N.u + 1 ∧ wordL (N.u + 1) (mvL N.l N.u p) < 18446744073709551616 ∧ OkL (mvL N.l N.u p) := by
  have hl := h.ll
  have hok' := okL_mv (f := N.u) (t := p) (by omega) (by omega) h.ok
  obtain ⟨e1, e2, e3⟩ := slots_word (u := N.u + 1) (l := mvL N.l N.u p) (by rw [mv_len (by omega) (by omega), hl]) (by omega) (fun d hd => Nat.lt_trans (hok'.2 d hd) (by omega))
  exact ⟨e1, e2, e3, hok'⟩
theorem word_less {N : Nd} (h : NdOk N) {p : Nat} (hp : p < N.u) : slotsL (wordL (N.u - 1) (mvL N.l p (N.u - 1))) = mvL N.l p (N.u - 1) ∧ wordL (N.u - 1) (mvL N.l p (N.u - 1)) % 16 = N.u - 1 ∧ wordL (N.u - 1) (mvL N.l p (N.u - 1)) < 18446744073709551616 ∧ OkL (mvL N.l p (N.u - 1)) := by
  have hl := h.ll
  have hu := h.u15
  have hok' := okL_mv (f := p) (t := N.u - 1) (by omega) (by omega) h.ok
  obtain ⟨e1, e2, e3⟩ := slots_word (u := N.u - 1) (l := mvL N.l p (N.u - 1)) (by rw [mv_len (by omega) (by omega), hl]) (by omega) (fun d hd => Nat.lt_trans (hok'.2 d hd) (by omega))
  exact ⟨e1, e2, e3, hok'⟩
theorem mv_take_new {l : List Nat} {u p : Nat} (hp : p ≤ u) (hu : u < l.length) : (mvL l u p).take (u + 1) = (l.take u).take p ++ l.getD u 0 :: (l.take u).drop p := by
  unfold mvL
  rw [if_neg (by omega)]
  have e1 : (l.take u).take p = l.take p := by rw [List.take_take, Nat.min_eq_left hp]
  have e2 : (l.take u).drop p = (l.drop p).take (u - p) := List.drop_take
  rw [e1, e2, ← List.cons_append, ← List.append_assoc]
  rw [List.take_append_of_le_length (by simp; omega), List.take_of_length_le (by simp; omega)]
theorem mv_take_less {l : List Nat} {u p : Nat} (hp : p < u) (hu : u ≤ l.length) : (mvL l p (u - 1)).take (u - 1) = (l.take u).eraseIdx p := by
  rw [List.eraseIdx_eq_take_drop_succ]
  have e1 : (l.take u).take p = l.take p := by rw [List.take_take, Nat.min_eq_left (by omega)]
  have e2 : (l.take u).drop (p + 1) = (l.drop (p + 1)).take (u - (p + 1)) := List.drop_take
  rw [e1, e2]
  unfold mvL
  by_cases h : p < u - 1
  · rw [if_pos h, ← List.append_assoc, List.take_append_of_le_length (by simp; omega), List.take_of_length_le (by simp; omega)]
    congr 2
    omega
  · have hpu : p = u - 1 := by omega
    subst hpu
    rw [if_neg h, List.take_append_of_le_length (by simp; omega), List.take_of_length_le (by simp; omega)]
    have : u - (u - 1 + 1) = 0 := by omega
    rw [this]
    simp
theorem put_new {N : Nd} (h : NdOk N) {k : ByteArray} (hh : hasE N.ents k = false) (hu : N.u < 15) (v : Int) : Nd.ents ⟨wordL (N.u + 1) (mvL N.l N.u (lbE N.ents k)), N.K.set (N.slot N.u) k, N.V.set (N.slot N.u) v, N.ins + 1, N.spl⟩ = putE N.ents k v := by
  have hle := lbE_le N.ents k
  rw [ents_len] at hle
  generalize hp : lbE N.ents k = p at hle
  obtain ⟨w1, w2, w3, w4⟩ := word_new h hu hle
  have hs := slot_lt h hu
  unfold putE
  rw [hh, hp]
  simp only [Bool.false_eq_true, if_false]
  show (((slotsL (wordL (N.u + 1) (mvL N.l N.u p))).take (wordL (N.u + 1) (mvL N.l N.u p) % 16)).map _) = _
  rw [w1, w2, mv_take_new hle (by rw [h.ll]; exact hu), List.map_append, List.map_cons]
  have hmap : ∀ L : List Nat, (∀ t ∈ L, ∃ i, i < N.u ∧ t = N.slot i) → L.map (Nd.ent ⟨wordL (N.u + 1) (mvL N.l N.u p), N.K.set (N.slot N.u) k, N.V.set (N.slot N.u) v, N.ins + 1, N.spl⟩) = L.map N.ent := fun L hL =>
    List.map_congr_left fun t ht => by
      obtain ⟨i, hi, rfl⟩ := hL t ht
      rw [ent_set h hs, if_neg (slot_ne h hu (by omega) (by omega))]
  have hmem : ∀ t ∈ N.l.take N.u, ∃ i, i < N.u ∧ t = N.slot i := fun t ht => by
    obtain ⟨i, hi, e⟩ := List.mem_take_iff_getElem.1 ht
    refine ⟨i, by omega, ?_⟩
    have : i < N.l.length := by omega
    rw [← e]
    simp [Nd.slot, List.getD, this]
  rw [hmap _ (fun t ht => hmem t (List.mem_of_mem_take ht)), hmap _ (fun t ht => hmem t (List.mem_of_mem_drop ht)), List.map_take, List.map_drop]
  show _ ++ Nd.ent _ (N.slot N.u) :: _ = _
  rw [ent_set h hs, if_pos rfl]
  rfl
theorem take_old {N : Nd} (h : NdOk N) {k : ByteArray} (hh : hasE N.ents k = true) : Nd.ents ⟨wordL (N.u - 1) (mvL N.l (lbE N.ents k) (N.u - 1)), N.K, N.V, N.ins + 1, N.spl⟩ = takeE N.ents k := by
  have hl := has_lt hh
  have hu : lbE N.ents k < N.u := by rwa [ents_len] at hl
  obtain ⟨w1, w2, w3, w4⟩ := word_less h hu
  unfold takeE
  rw [if_pos hh]
  show (((slotsL (wordL (N.u - 1) (mvL N.l (lbE N.ents k) (N.u - 1)))).take (wordL (N.u - 1) (mvL N.l (lbE N.ents k) (N.u - 1)) % 16)).map _) = _
  rw [w1, w2, mv_take_less hu (by rw [h.ll]; exact h.u15)]
  have : Nd.ent ⟨wordL (N.u - 1) (mvL N.l (lbE N.ents k) (N.u - 1)), N.K, N.V, N.ins + 1, N.spl⟩ = N.ent := rfl
  rw [this, List.eraseIdx_eq_take_drop_succ, List.eraseIdx_eq_take_drop_succ, List.map_append, List.map_take, List.map_drop]
  rfl
theorem mem_put_big {A : List Ent} (hs : SortedE A) (h : ∀ e ∈ A, e.1.size ≤ 4096) {k : ByteArray} (hk : k.size ≤ 4096) (v : Int) : ∀ e ∈ putE A k v, e.1.size ≤ 4096 := fun e he => by
  rcases (mem_put hs k v e.1 e.2).1 he with ⟨h1, _⟩ | ⟨_, h1⟩
  · rw [h1]; exact hk
  · exact h _ h1
/-- Putting in: what it tells, and that the node stays one. -/
theorem putM_ok {N : Nd} (h : NdOk N) (k : ByteArray) (v : Int) : NdOk (putM N k v).1 := by
  unfold putM
  split
  · exact h
  · rename_i hk
    split
    · rename_i hh
      refine ⟨h.lt, h.ok, h.kl, by simpa using h.vl, ?_, ?_⟩
      · rw [put_old h hh]; exact sorted_put h.sorted k v
      · rw [put_old h hh]; exact mem_put_big h.sorted h.big (by omega) v
    · rename_i hh
      split
      · exact h
      · rename_i hu
        have hu : N.u < 15 := by have := h.u15; omega
        have hle := lbE_le N.ents k
        rw [ents_len] at hle
        obtain ⟨w1, w2, w3, w4⟩ := word_new h hu hle
        have hh' : hasE N.ents k = false := by simpa using hh
        refine ⟨w3, by show OkL (slotsL _); rw [w1]; exact w4, by simpa using h.kl, by simpa using h.vl, ?_, ?_⟩
        · rw [put_new h hh' hu]; exact sorted_put h.sorted k v
        · rw [put_new h hh' hu]; exact mem_put_big h.sorted h.big (by omega) v
theorem takeM_ok {N : Nd} (h : NdOk N) (k : ByteArray) : NdOk (takeM N k).1 := by
  unfold takeM
  split
  · rename_i hh
    have hl := has_lt hh
    have hu : lbE N.ents k < N.u := by rwa [ents_len] at hl
    obtain ⟨w1, w2, w3, w4⟩ := word_less h hu
    refine ⟨w3, by show OkL (slotsL _); rw [w1]; exact w4, h.kl, h.vl, ?_, ?_⟩
    · rw [take_old h hh]; exact sorted_take h.sorted k
    · rw [take_old h hh]; intro e he; exact h.big e ((mem_take h.sorted k e.1 e.2).1 he).2
  · exact h
theorem V_at {N : Nd} {k : ByteArray} (hh : hasE N.ents k = true) : getE N.ents k = some (N.V.getD (N.slot (lbE N.ents k)) 0) := by
  have hl := has_lt hh
  have hu : lbE N.ents k < N.u := by rwa [ents_len] at hl
  unfold getE
  rw [if_pos hh, ents_at N hu]
  rfl
/-- What putting in tells, in terms of the entries. -/
def putOut (A : List Ent) (k : ByteArray) : Int × Bool × Int :=
  if 4096 < k.size then (0, false, 2) else match getE A k with
    | some v => (v, true, 0)
    | none => if A.length = 15 then (0, false, 120) else (0, false, 0)
def takeOut (A : List Ent) (k : ByteArray) : Int × Int := match getE A k with
  | some v => (v, 0)
  | none => (0, 5)
theorem get_has {A : List Ent} {k : ByteArray} (hh : hasE A k = false) : getE A k = none := by unfold getE; rw [hh]; rfl
theorem putM_out {N : Nd} (_h : NdOk N) (k : ByteArray) (v : Int) : (putM N k v).2 = putOut N.ents k := by
  unfold putM putOut
  split
  · rfl
  · split
    · rename_i hh; rw [V_at hh]
    · rename_i hh
      rw [get_has (by simpa using hh), ents_len]
      split <;> rfl
theorem putM_ents {N : Nd} (h : NdOk N) (k : ByteArray) (v : Int) : (putM N k v).1.ents = if (putM N k v).2.2.2 = 0 then putE N.ents k v else N.ents := by
  unfold putM
  split
  · rfl
  · split
    · rename_i hh
      rw [if_pos rfl]
      exact put_old h hh v
    · rename_i hh
      split
      · rfl
      · rename_i hu
        rw [if_pos rfl]
        exact put_new h (by simpa using hh) (by have := h.u15; omega) v
theorem takeM_out {N : Nd} (_h : NdOk N) (k : ByteArray) : (takeM N k).2 = takeOut N.ents k := by
  unfold takeM takeOut
  split
  · rename_i hh; rw [V_at hh]
  · rename_i hh; rw [get_has (by simpa using hh)]
theorem takeM_ents {N : Nd} (h : NdOk N) (k : ByteArray) : (takeM N k).1.ents = takeE N.ents k := by
  unfold takeM
  split
  · rename_i hh; exact take_old h hh
  · rename_i hh; unfold takeE; rw [if_neg hh]

/-- Putting in the upper half, taking it out. -/
def putAll (N : Nd) (R : Nd) : List ByteArray → Nd
  | [] => R
  | k :: L => putAll N (putM R k (getM N k).1).1 L
def takeAll (N : Nd) (L : List ByteArray) : Nd := L.foldr (fun k M => (takeM M k).1) N
def upperM (N : Nd) : List ByteArray := (keysM N).drop ((N.u + 1) / 2)
def splitL (N : Nd) : Nd := { takeAll N (upperM N) with spl := N.spl + 1 }
def splitR (N : Nd) : Nd := putAll N nd0 (upperM N)
theorem takeAll_ok {N : Nd} (h : NdOk N) (L : List ByteArray) : NdOk (takeAll N L) := by
  induction L with
  | nil => exact h
  | cons k L ih => exact takeM_ok ih k
theorem putAll_ok {N R : Nd} (h : NdOk R) (L : List ByteArray) : NdOk (putAll N R L) := by
  induction L generalizing R with
  | nil => exact h
  | cons k L ih => exact ih (putM_ok h k _)
theorem keysM_len (N : Nd) : (keysM N).length = N.u := by unfold keysM; rw [List.length_map, ents_len]
theorem splitL_ok {N : Nd} (h : NdOk N) : NdOk (splitL N) := by
  have := takeAll_ok h (upperM N)
  exact ⟨this.lt, this.ok, this.kl, this.vl, this.sorted, this.big⟩
theorem splitR_ok (N : Nd) : NdOk (splitR N) := putAll_ok nd0_ok _

end Go.Proofs.Ythplnecnagbedaa
