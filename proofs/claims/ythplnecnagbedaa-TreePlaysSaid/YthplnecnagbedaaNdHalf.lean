/- What a split leaves on each side, and what counts tell of keys; conditions: none. -/
import Derived.Test.YthplnecnagbedaaNdSplit
namespace Go.Proofs.Ythplnecnagbedaa
open Go.RowKit

theorem mem_takes {A : List Ent} (hs : SortedE A) (L : List ByteArray) : SortedE (L.foldr (fun k B => takeE B k) A) ∧ ∀ a u, (a, u) ∈ L.foldr (fun k B => takeE B k) A ↔ a ∉ L ∧ (a, u) ∈ A := by
  induction L with
  | nil => exact ⟨hs, fun a u => by simp⟩
  | cons k L ih =>
    refine ⟨sorted_take ih.1 k, fun a u => ?_⟩
    rw [List.foldr_cons, mem_take ih.1, ih.2 a u]
    simp only [List.mem_cons, not_or]
    constructor
    · rintro ⟨h1, h2, h3⟩; exact ⟨⟨h1, h2⟩, h3⟩
    · rintro ⟨⟨h1, h2⟩, h3⟩; exact ⟨h1, h2, h3⟩
theorem takeAll_ents {N : Nd} (h : NdOk N) (L : List ByteArray) : (takeAll N L).ents = L.foldr (fun k B => takeE B k) N.ents := by
  induction L with
  | nil => rfl
  | cons k L ih =>
    have : takeAll N (k :: L) = (takeM (takeAll N L) k).1 := rfl
    rw [this, takeM_ents (takeAll_ok h L), ih]
    rfl
theorem takes_drop {A : List Ent} (hs : SortedE A) (n : Nat) : ((A.drop n).map (·.1)).foldr (fun k B => takeE B k) A = A.take n := by
  have hm := mem_takes hs ((A.drop n).map (·.1))
  refine sorted_ext hm.1 (hs.sublist (List.take_sublist _ _)) fun a u => ?_
  rw [hm.2 a u]
  have hs2 := hs
  rw [← List.take_append_drop n A] at hs2
  obtain ⟨_, _, hlt⟩ := List.pairwise_append.1 hs2
  constructor
  · rintro ⟨h1, h2⟩
    rw [← List.take_append_drop n A] at h2
    rcases List.mem_append.1 h2 with h2 | h2
    · exact h2
    · exact absurd (List.mem_map.2 ⟨_, h2, rfl⟩) h1
  · intro h
    refine ⟨fun hc => ?_, List.mem_of_mem_take h⟩
    obtain ⟨⟨c, v⟩, hcc, e⟩ := List.mem_map.1 hc
    dsimp only at e
    subst e
    have hb : bl c c = true := hlt (c, u) h (c, v) hcc
    rw [bl_irrefl] at hb
    cases hb
theorem upper_eq (N : Nd) : upperM N = (N.ents.drop ((N.u + 1) / 2)).map (·.1) := by unfold upperM keysM; rw [List.map_drop]
theorem splitL_ents {N : Nd} (h : NdOk N) : (splitL N).ents = N.ents.take ((N.u + 1) / 2) := by
  have : (splitL N).ents = (takeAll N (upperM N)).ents := rfl
  rw [this, takeAll_ents h, upper_eq, takes_drop h.sorted]

theorem mem_puts {A : List Ent} (hs : SortedE A) (f : ByteArray → Int) (L : List ByteArray) : SortedE (L.foldl (fun B k => putE B k (f k)) A) ∧ ∀ a u, (a, u) ∈ L.foldl (fun B k => putE B k (f k)) A ↔ (a ∈ L ∧ u = f a) ∨ (a ∉ L ∧ (a, u) ∈ A) := by
  induction L generalizing A with
  | nil => exact ⟨hs, fun a u => by simp⟩
  | cons k L ih =>
    have h1 := ih (sorted_put hs k (f k))
    refine ⟨h1.1, fun a u => ?_⟩
    rw [List.foldl_cons, h1.2 a u, mem_put hs]
    simp only [List.mem_cons, not_or]
    by_cases hk : a = k
    · subst hk
      by_cases hL : a ∈ L <;> simp [hL]
    · by_cases hL : a ∈ L <;> simp [hL, hk]
theorem putE_len_le (A : List Ent) (k : ByteArray) (v : Int) : (putE A k v).length ≤ A.length + 1 := by rw [put_len]; split <;> omega
theorem putM_fits {N : Nd} (h : NdOk N) {k : ByteArray} (hk : k.size ≤ 4096) (hu : N.ents.length < 15) (v : Int) : (putM N k v).1.ents = putE N.ents k v := by
  rw [putM_ents h, putM_out h, if_pos]
  unfold putOut
  rw [if_neg (by omega)]
  split
  · rfl
  · rw [if_neg (by omega)]
theorem putAll_ents {N R : Nd} (h : NdOk R) (L : List ByteArray) (hL : ∀ k ∈ L, k.size ≤ 4096) (hl : R.ents.length + L.length ≤ 15) : (putAll N R L).ents = L.foldl (fun B k => putE B k (getM N k).1) R.ents := by
  induction L generalizing R with
  | nil => rfl
  | cons k L ih =>
    have h1 := putM_fits h (hL k (by simp)) (by simp at hl; omega) (getM N k).1
    have : putAll N R (k :: L) = putAll N (putM R k (getM N k).1).1 L := rfl
    rw [this, ih (putM_ok h _ _) (fun x hx => hL x (by simp [hx])) (by have := putE_len_le R.ents k (getM N k).1; rw [h1]; simp at hl; omega), h1]
    rfl
theorem splitR_ents {N : Nd} (h : NdOk N) : (splitR N).ents = N.ents.drop ((N.u + 1) / 2) := by
  have hl := ents_len N
  have hu := h.u15
  have hL : ∀ k ∈ upperM N, k.size ≤ 4096 := fun k hk => by
    rw [upper_eq] at hk
    obtain ⟨e, he, rfl⟩ := List.mem_map.1 hk
    exact h.big e (List.mem_of_mem_drop he)
  have e1 : (splitR N).ents = (upperM N).foldl (fun B k => putE B k (getM N k).1) [] := by
    have := putAll_ents (N := N) nd0_ok (upperM N) hL (by rw [nd0_ents, upper_eq]; simp [hl]; omega)
    rw [nd0_ents] at this
    exact this
  rw [e1]
  have hm := mem_puts (A := []) List.Pairwise.nil (fun k => (getM N k).1) (upperM N)
  refine sorted_ext hm.1 (h.sorted.sublist (List.drop_sublist _ _)) fun a u => ?_
  rw [hm.2 a u, upper_eq]
  simp only [List.not_mem_nil, and_false, or_false]
  constructor
  · rintro ⟨h1, h2⟩
    obtain ⟨⟨c, v⟩, hc, e⟩ := List.mem_map.1 h1
    dsimp only at e
    subst e
    have hg := (get_iff h.sorted).2 (List.mem_of_mem_drop hc)
    unfold getM at h2
    rw [hg] at h2
    dsimp only at h2
    subst h2
    exact hc
  · intro hd
    refine ⟨List.mem_map.2 ⟨_, hd, rfl⟩, ?_⟩
    have hg := (get_iff h.sorted).2 (List.mem_of_mem_drop hd)
    unfold getM
    rw [hg]

/-- A split, as a call of the laws makes it. -/
def splitN (N : Nd) : Nd := if N.u < 2 then N else splitL N
theorem splitN_ok {N : Nd} (h : NdOk N) : NdOk (splitN N) := by unfold splitN; split; exact h; exact splitL_ok h
theorem splitN_ins (N : Nd) : (splitN N).ins ≤ N.ins + 15 := by
  unfold splitN
  split
  · omega
  · have h1 := takeAll_ins N (upperM N)
    have h2 : (upperM N).length ≤ 15 := by unfold upperM; rw [List.length_drop, keysM_len]; unfold Nd.u; omega
    show (takeAll N (upperM N)).ins ≤ _
    omega
theorem splitN_spl (N : Nd) : (splitN N).spl ≤ N.spl + 1 := by
  unfold splitN
  split
  · omega
  · exact Nat.le_refl _
theorem split_keep {w w' : World} {g : Nat} {N : Nd} {e : Ending} (hN : Blk w g 95 (ndCells N)) (hg : g < w.heap.size) (h : SplitPost w g N e w') : ∃ v1 v2 v3, e = .returned (.tuple #[v1, v2, v3]) ∧ Blk w' g 95 (ndCells (splitN N)) ∧ Chg [g] w w' := by
  unfold splitN
  rcases h with ⟨h1, h2, h3⟩ | ⟨h1, r, _, h2, h3, _, h4⟩
  · rw [if_pos h1]; exact ⟨_, _, _, h2, hN.below h3 hg, Chg.of_below h3 [g]⟩
  · rw [if_neg (by omega)]; exact ⟨_, _, _, h2, h3, h4⟩
/-- Counts tell of keys. -/
def Told (N N' : Nd) : Prop := N.ins ≤ N'.ins ∧ N.spl ≤ N'.spl ∧ ((N'.ins = N.ins ∧ N'.spl = N.spl) ↔ keysM N' = keysM N)
theorem told_same (N : Nd) : Told N N := ⟨Nat.le_refl _, Nat.le_refl _, by simp⟩
theorem keys_len_ne {N N' : Nd} (h : N'.ents.length ≠ N.ents.length) : keysM N' ≠ keysM N := fun e => by
  have := congrArg List.length e
  unfold keysM at this
  simp only [List.length_map] at this
  exact h this
theorem told_put {N : Nd} (h : NdOk N) (k : ByteArray) (v : Int) : Told N (putM N k v).1 := by
  have hents := putM_ents h k v
  by_cases hk : 4096 < k.size
  · have : (putM N k v).1 = N := by unfold putM; rw [if_pos hk]
    rw [this]; exact told_same N
  cases hh : hasE N.ents k with
  | true =>
    have hr : (putM N k v).1 = ⟨N.x, N.K, N.V.set (N.slot (lbE N.ents k)) v, N.ins, N.spl⟩ := by unfold putM; rw [if_neg hk, if_pos hh]
    rw [hr]
    refine ⟨Nat.le_refl _, Nat.le_refl _, ⟨fun _ => ?_, fun _ => ⟨rfl, rfl⟩⟩⟩
    unfold keysM
    rw [put_old h hh]
    unfold putE
    rw [if_pos hh, List.map_set]
    obtain ⟨z, hz⟩ := has_at hh
    obtain ⟨hl, he⟩ := List.getElem?_eq_some_iff.1 hz
    have : (N.ents.map (·.1))[lbE N.ents k]'(by simpa using hl) = k := by rw [List.getElem_map, he]
    conv => lhs; arg 3; rw [← this]
    exact List.set_getElem_self _
  | false =>
    by_cases hu : N.u = 15
    · have : (putM N k v).1 = N := by unfold putM; rw [if_neg hk, if_neg (by rw [hh]; simp), if_pos hu]
      rw [this]; exact told_same N
    · have hr : (putM N k v).1 = ⟨wordL (N.u + 1) (mvL N.l N.u (lbE N.ents k)), N.K.set (N.slot N.u) k, N.V.set (N.slot N.u) v, N.ins + 1, N.spl⟩ := by unfold putM; rw [if_neg hk, if_neg (by rw [hh]; simp), if_neg hu]
      have he : (putM N k v).1.ents.length ≠ N.ents.length := by
        rw [hr, put_new h hh (by have := h.u15; omega), put_len, if_neg (by rw [hh]; simp)]
        omega
      have hne := keys_len_ne he
      refine ⟨by rw [hr]; exact Nat.le_succ _, by rw [hr]; exact Nat.le_refl _, ⟨fun hc => ?_, fun hc => absurd hc hne⟩⟩
      have := hc.1
      rw [hr] at this
      exact absurd this (Nat.succ_ne_self _)
theorem told_take {N : Nd} (h : NdOk N) (k : ByteArray) : Told N (takeM N k).1 := by
  cases hh : hasE N.ents k with
  | true =>
    have hr : (takeM N k).1 = ⟨wordL (N.u - 1) (mvL N.l (lbE N.ents k) (N.u - 1)), N.K, N.V, N.ins + 1, N.spl⟩ := by unfold takeM; rw [if_pos hh]
    have hl := has_lt hh
    have he : (takeM N k).1.ents.length ≠ N.ents.length := by
      rw [takeM_ents h, take_len, if_pos hh]
      omega
    have hne := keys_len_ne he
    refine ⟨by rw [hr]; exact Nat.le_succ _, by rw [hr]; exact Nat.le_refl _, ⟨fun hc => ?_, fun hc => absurd hc hne⟩⟩
    have := hc.1
    rw [hr] at this
    exact absurd this (Nat.succ_ne_self _)
  | false =>
    have : (takeM N k).1 = N := by unfold takeM; rw [if_neg (by rw [hh]; simp)]
    rw [this]; exact told_same N
theorem takeAll_ins_ge (N : Nd) (L : List ByteArray) : N.ins ≤ (takeAll N L).ins := by
  induction L with
  | nil => exact Nat.le_refl _
  | cons k L ih =>
    refine Nat.le_trans ih ?_
    show (takeAll N L).ins ≤ (takeM (takeAll N L) k).1.ins
    unfold takeM
    split
    · exact Nat.le_succ _
    · exact Nat.le_refl _
theorem told_split {N : Nd} (h : NdOk N) : Told N (splitN N) := by
  unfold splitN
  split
  · exact told_same N
  · rename_i hu
    have he : (splitL N).ents.length ≠ N.ents.length := by
      rw [splitL_ents h, List.length_take, ents_len]
      omega
    refine ⟨takeAll_ins_ge N (upperM N), Nat.le_succ _, ⟨fun hc => ?_, fun hc => absurd hc (keys_len_ne he)⟩⟩
    exact absurd hc.2 (Nat.succ_ne_self _)

end Go.Proofs.Ythplnecnagbedaa
