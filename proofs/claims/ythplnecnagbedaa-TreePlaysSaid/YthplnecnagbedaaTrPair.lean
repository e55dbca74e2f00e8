/- Two trees that lie apart, a map beside them, filled in two orders; the same numbers; rows of texts with their bounds; conditions: none. -/
import Derived.Test.YthplnecnagbedaaTrKeep
import Derived.Test.YthplnecnagbedaaNdMap
import Derived.BigQuiet
namespace Go.Proofs.Ythplnecnagbedaa
theorem mem_putSpec {A : List Ent} (hs : SortedE A) (hl : A.length < 4096) (k : ByteArray) (v : Int) (a : ByteArray) (u : Int) :
    (a, u) ∈ (putSpec A k v).1 ↔ (k.size ≤ 4096 ∧ a = k ∧ u = v) ∨ ((k.size ≤ 4096 → a ≠ k) ∧ (a, u) ∈ A) := by
  unfold putSpec
  by_cases hk : 4096 < k.size
  · rw [if_pos hk]
    have : ¬ k.size ≤ 4096 := by omega
    simp [this]
  · have hk2 : k.size ≤ 4096 := by omega
    rw [if_neg hk]
    cases hg : getE A k with
    | some w =>
      dsimp only
      rw [mem_put hs]
      simp [hk2]
    | none =>
      dsimp only
      rw [if_neg (by omega)]
      dsimp only
      rw [mem_put hs]
      simp [hk2]
theorem putSpec_len (A : List Ent) (k : ByteArray) (v : Int) : (putSpec A k v).1.length ≤ A.length + 1 := by
  have := putE_len_le A k v
  unfold putSpec
  split
  · dsimp only; omega
  · split
    · exact this
    · split
      · dsimp only; omega
      · exact this
theorem mem_takeSpec {A : List Ent} (hs : SortedE A) (k a : ByteArray) (u : Int) : (a, u) ∈ (takeSpec A k).1 ↔ a ≠ k ∧ (a, u) ∈ A := by
  unfold takeSpec
  cases hg : getE A k with
  | some w => exact mem_take hs k a u
  | none =>
    dsimp only
    refine ⟨fun h => ⟨fun e => ?_, h⟩, fun h => h.2⟩
    subst e
    exact (get_none hs).1 hg u h
theorem takeSpec_len (A : List Ent) (k : ByteArray) : (takeSpec A k).1.length ≤ A.length := by
  unfold takeSpec
  cases hg : getE A k with
  | some w =>
    dsimp only
    unfold takeE
    split
    · rw [List.length_eraseIdx]; split <;> omega
    · exact Nat.le_refl _
  | none => exact Nat.le_refl _
theorem mem_once {A : List Ent} (hs : SortedE A) {a : ByteArray} {u v : Int} (h1 : (a, u) ∈ A) (h2 : (a, v) ∈ A) : u = v := by
  have := (get_iff hs).2 h1
  rw [(get_iff hs).2 h2] at this
  injection this with e
  exact e.symm

/-- The first tree, and the table of the last places, behind i puts. -/
structure Ord1 (X E : List Ent) (L : List ByteArray) (i : Nat) : Prop where
  sx : SortedE X
  few : E.length ≤ i
  fewX : X.length ≤ i
  mem : ∀ a u, (a, u) ∈ E ↔ (a, u) ∈ X ∧ a.size ≤ 4096
  keys : ∀ a u, (a, u) ∈ X → ∃ j, j < i ∧ L.getD j emp = a
  has : ∀ j, j < i → ∃ u, (L.getD j emp, u) ∈ X
theorem ord1_nil (L : List ByteArray) : Ord1 [] [] L 0 := ⟨List.Pairwise.nil, Nat.le_refl _, Nat.le_refl _, by simp, by simp, fun j h => by omega⟩
theorem Ord1.put {X E : List Ent} {L : List ByteArray} {i : Nat} (h : Ord1 X E L i) (hs : SortedE E) (hi : i < 4096) (v : Int) : Ord1 (putE X (L.getD i emp) v) (putSpec E (L.getD i emp) v).1 L (i + 1) := by
  refine ⟨sorted_put h.sx _ _, Nat.le_trans (putSpec_len _ _ _) (by have := h.few; omega), Nat.le_trans (putE_len_le _ _ _) (by have := h.fewX; omega), fun a u => ?_, fun a u ha => ?_, fun j hj => ?_⟩
  · rw [mem_putSpec hs (by have := h.few; omega), mem_put h.sx, h.mem]
    constructor
    · rintro (⟨h1, rfl, rfl⟩ | ⟨h1, h2, h3⟩)
      · exact ⟨.inl ⟨rfl, rfl⟩, h1⟩
      · by_cases e : a = L.getD i emp
        · exact absurd e (h1 (by rw [← e]; exact h3))
        · exact ⟨.inr ⟨e, h2⟩, h3⟩
    · rintro ⟨⟨rfl, rfl⟩ | ⟨h1, h2⟩, h3⟩
      · exact .inl ⟨h3, rfl, rfl⟩
      · exact .inr ⟨fun _ => h1, h2, h3⟩
  · rcases (mem_put h.sx _ _ _ _).1 ha with ⟨h1, _⟩ | ⟨_, h2⟩
    · exact ⟨i, Nat.lt_succ_self _, h1.symm⟩
    · obtain ⟨j, hj, e⟩ := h.keys a u h2
      exact ⟨j, Nat.lt_succ_of_lt hj, e⟩
  · by_cases e : L.getD j emp = L.getD i emp
    · exact ⟨v, (mem_put h.sx _ _ _ _).2 (.inl ⟨e, rfl⟩)⟩
    · rcases Nat.lt_or_ge j i with h5 | h5
      · obtain ⟨u, hu⟩ := h.has j h5
        exact ⟨u, (mem_put h.sx _ _ _ _).2 (.inr ⟨e, hu⟩)⟩
      · exact absurd (by rw [show j = i from by omega]) e
/-- The second tree: what the second row laid. -/
structure Ord2 (E : List Ent) (N : List ByteArray) (j : Nat) : Prop where
  few : E.length ≤ j
  of : ∀ a u, (a, u) ∈ E → a.size ≤ 4096 ∧ a ∈ N
theorem ord2_nil (N : List ByteArray) : Ord2 [] N 0 := ⟨Nat.le_refl _, by simp⟩
theorem Ord2.put {E : List Ent} {N : List ByteArray} {j : Nat} (h : Ord2 E N j) (hs : SortedE E) (hj : j < 4096) {k : ByteArray} (hk : k ∈ N) (v : Int) : Ord2 (putSpec E k v).1 N (j + 1) := by
  refine ⟨Nat.le_trans (putSpec_len _ _ _) (by have := h.few; omega), fun a u ha => ?_⟩
  rcases (mem_putSpec hs (by have := h.few; omega) _ _ _ _).1 ha with ⟨h1, rfl, _⟩ | ⟨_, h2⟩
  · exact ⟨h1, hk⟩
  · exact h.of a u h2
/-- The second tree, from the end down to i. -/
structure Ord3 (X E : List Ent) (L N : List ByteArray) (i n m : Nat) : Prop where
  few : E.length ≤ m + (n - i)
  back : ∀ j, i ≤ j → j < n → ∀ u, (L.getD j emp).size ≤ 4096 → (L.getD j emp, u) ∈ X → (L.getD j emp, u) ∈ E
  of : ∀ a u, (a, u) ∈ E → a.size ≤ 4096 ∧ ((a, u) ∈ X ∨ a ∈ N)
theorem Ord2.to {E : List Ent} {N : List ByteArray} {j : Nat} (h : Ord2 E N j) (X : List Ent) (L : List ByteArray) (n : Nat) : Ord3 X E L N n n j :=
  ⟨by have := h.few; omega, fun j h1 h2 => by omega, fun a u ha => ⟨(h.of a u ha).1, .inr (h.of a u ha).2⟩⟩
theorem Ord3.put {X E : List Ent} {L N : List ByteArray} {i n m : Nat} (h : Ord3 X E L N (i + 1) n m) (hin : i < n) (hX : SortedE X) (hs : SortedE E) (hm : m + n < 4096) {v : Int} (hv : (L.getD i emp, v) ∈ X) : Ord3 X (putSpec E (L.getD i emp) v).1 L N i n m := by
  have hl : E.length < 4096 := by have := h.few; omega
  refine ⟨Nat.le_trans (putSpec_len _ _ _) (by have := h.few; omega), fun j h1 h2 u h3 h4 => ?_, fun a u ha => ?_⟩
  · rw [mem_putSpec hs hl]
    by_cases e : L.getD j emp = L.getD i emp
    · rw [e] at h3 h4 ⊢
      exact .inl ⟨h3, rfl, mem_once hX h4 hv⟩
    · refine .inr ⟨fun _ => e, h.back j ?_ h2 u h3 h4⟩
      rcases Nat.lt_or_ge i j with h5 | h5
      · exact h5
      · exact absurd (by rw [Nat.le_antisymm h5 h1]) e
  · rcases (mem_putSpec hs hl _ _ _ _).1 ha with ⟨h1, rfl, rfl⟩ | ⟨_, h2⟩
    · exact ⟨h1, .inl hv⟩
    · exact h.of a u h2
/-- The second tree, while what is too much is taken. -/
structure Ord4 (X E : List Ent) (N : List ByteArray) (j : Nat) : Prop where
  few : E.length < 4096
  all : ∀ a u, (a, u) ∈ X → a.size ≤ 4096 → (a, u) ∈ E
  of : ∀ a u, (a, u) ∈ E → a.size ≤ 4096 ∧ ((a, u) ∈ X ∨ a ∈ N.drop j)
theorem Ord3.to {X E E1 : List Ent} {L N : List ByteArray} {n m : Nat} (h : Ord3 X E L N 0 n m) (h1 : Ord1 X E1 L n) (hm : m + n < 4096) : Ord4 X E N 0 :=
  ⟨by have := h.few; omega, fun a u ha hz => by
    obtain ⟨j, hj, rfl⟩ := h1.keys a u ha
    exact h.back j (Nat.zero_le _) hj u hz ha, fun a u ha => by rw [List.drop_zero]; exact h.of a u ha⟩
theorem Ord4.take {X E : List Ent} {N : List ByteArray} {j : Nat} (h : Ord4 X E N j) (hs : SortedE E) (hX : SortedE X) (hj : j < N.length) (hk : hasE X (N.getD j emp) = false) : Ord4 X (takeSpec E (N.getD j emp)).1 N (j + 1) := by
  have hg := get_has hk
  have hd : N.drop j = N.getD j emp :: N.drop (j + 1) := by rw [List.drop_eq_getElem_cons hj]; simp [List.getD, hj]
  refine ⟨Nat.lt_of_le_of_lt (takeSpec_len _ _) h.few, fun a u ha hz => ?_, fun a u ha => ?_⟩
  · rw [mem_takeSpec hs]
    refine ⟨fun e => ?_, h.all a u ha hz⟩
    subst e
    exact (get_none hX).1 hg u ha
  · obtain ⟨h1, h2⟩ := (mem_takeSpec hs _ _ _).1 ha
    obtain ⟨h3, h4⟩ := h.of a u h2
    refine ⟨h3, h4.imp id fun h5 => ?_⟩
    rw [hd] at h5
    rcases List.mem_cons.1 h5 with e | e
    · exact absurd e h1
    · exact e
theorem Ord4.skip {X E : List Ent} {N : List ByteArray} {j : Nat} (h : Ord4 X E N j) (hs : SortedE E) (hj : j < N.length) (hk : hasE X (N.getD j emp) = true) (hX : SortedE X) : Ord4 X E N (j + 1) := by
  have hd : N.drop j = N.getD j emp :: N.drop (j + 1) := by rw [List.drop_eq_getElem_cons hj]; simp [List.getD, hj]
  refine ⟨h.few, h.all, fun a u ha => ?_⟩
  obtain ⟨h3, h4⟩ := h.of a u ha
  refine ⟨h3, ?_⟩
  rcases h4 with h4 | h4
  · exact .inl h4
  · rw [hd] at h4
    rcases List.mem_cons.1 h4 with e | e
    · subst e
      obtain ⟨v, hv⟩ := get_of_has hk
      have hv2 := (get_iff hX).1 hv
      have := mem_once hs ha (h.all _ _ hv2 h3)
      subst this
      exact .inl hv2
    · exact .inr e
theorem Ord4.same {X E E1 : List Ent} {N L : List ByteArray} {n : Nat} (h : Ord4 X E N N.length) (hs : SortedE E) (h1 : Ord1 X E1 L n) (hs1 : SortedE E1) : E = E1 :=
  sorted_ext hs hs1 fun a u => by
    rw [h1.mem]
    refine ⟨fun ha => ?_, fun ha => h.all a u ha.1 ha.2⟩
    obtain ⟨h3, h4⟩ := h.of a u ha
    refine ⟨?_, h3⟩
    rcases h4 with h4 | h4
    · exact h4
    · rw [List.drop_length] at h4; cases h4

section
open Go.RowKit

/-- A row of numbers that reads. -/
def RdI (w : World) (B : Nat) (ao : Option Addr) (L : List Int) : Prop := ∀ k, k < L.length → ∃ b off, ao = some ⟨b, off, none⟩ ∧ b < B ∧ w.cell? ⟨b, off + k, none⟩ = some (.int .i64 (L.getD k 0))
theorem own_vals {w : World} {b : Nat} {a : Option Addr} {k : Nat} {A : List Ent} (h : w.ownsRow b 3 1 (.slice a A.length k) A.length (A.map fun e => .int .i64 e.2)) : RdI w w.heap.size a (A.map (·.2)) := fun j hj => by
  have hj' : j < A.length := by simpa using hj
  obtain ⟨g, e, _, hg, c⟩ := own_rd h j (.int .i64 A[j].2) (by simp [hj'])
  exact ⟨g, 0, e, hg, by rw [Nat.zero_add, c]; simp [List.getD, hj']⟩
set_option maxRecDepth 100000 in
set_option maxHeartbeats 1000000 in
/-- The same numbers? -/
theorem sameInts_any (w : World) (a b : Option Addr) (n m ca cb : Nat) (A B : List Int) (hA : A.length = n) (hB : B.length = m) (hl : n ≤ 9223372036854775807 ∧ m ≤ 9223372036854775807) (ra : RdI w w.heap.size a A) (rb : RdI w w.heap.size b B) :
    Calls Try.prog 50 #[.slice a n ca, .slice b m cb] w fun e w' => e = .returned (.bool (decide (A = B))) ∧ ∃ q, w' = w.drewN q := by
  obtain ⟨hl1, hl2⟩ := hl
  by_cases hnm : n = m
  · subst hnm
    have HA := Lib.hid hA
    have HB := Lib.hid hB
    clear hA hB
    have RA := Lib.hid ra
    have RB := Lib.hid rb
    clear ra rb
    go_enter Try.func50, Try.ntmps50
    go_wp2
    go_loopg [5] n (fun gn i wr => ∃ (k : Nat), k ≤ n ∧ i = .int .i64 k ∧ gn = n - k ∧ A.take k = B.take k ∧ ∃ q, wr = w.drewN q)
    case atStart => exact ⟨0, Nat.zero_le _, rfl, rfl, rfl, 0, rfl⟩
    case round =>
      obtain ⟨k, hk, rfl, rfl, htk, q, rfl⟩ := hrel
      by_cases hkn : k < n
      · obtain ⟨ba, oa, rfl, _, c1⟩ := RA.out k (by rw [HA.out]; exact hkn)
        obtain ⟨bb, ob, rfl, _, c2⟩ := RB.out k (by rw [HB.out]; exact hkn)
        have hta : A.take (k + 1) = A.take k ++ [A.getD k 0] := by rw [List.take_succ_eq_append_getElem (by rw [HA.out]; exact hkn)]; simp [List.getD, HA.out, hkn]
        have htb : B.take (k + 1) = B.take k ++ [B.getD k 0] := by rw [List.take_succ_eq_append_getElem (by rw [HB.out]; exact hkn)]; simp [List.getD, HB.out, hkn]
        have HT := Lib.hid htk
        have HTA := Lib.hid hta
        have HTB := Lib.hid htb
        clear htk hta htb
        generalize hx : A.getD k 0 = x at c1
        generalize hy : B.getD k 0 = y at c2
        have HX := Lib.hid hx
        have HY := Lib.hid hy
        clear hx hy
        by_cases hxy : x = y
        · have HE := Lib.hid hxy
          subst hxy
          go_upto_region 6 with fail
          go_quiet (fail)
          go_wp2_with fail
          go_roundg (n - (k + 1))
          case rel => exact ⟨k + 1, by omega, by go_num, rfl, by rw [HTA.out, HTB.out, HT.out, HX.out, HY.out], _, rfl⟩
          case measure => omega
        · have hd : decide (A = B) = false := by
            refine decide_eq_false fun h => hxy ?_
            rw [← HX.out, ← HY.out, h]
          have hne : (x != y) = true := by simp only [bne_iff_ne]; intro h; exact hxy (by exact h)
          have HD := Lib.hid hd
          clear hd hxy
          go_upto_region 6 with fail
          go_quiet (fail)
          go_wp2_with fail
          go_ret
          exact ⟨by rw [HD.out]; rfl, _, World.drewN_drewN _ _ _⟩
      · obtain rfl : k = n := by omega
        have hd : decide (A = B) = true := decide_eq_true (by rw [List.take_of_length_le (by rw [HA.out]; exact Nat.le_refl _), List.take_of_length_le (by rw [HB.out]; exact Nat.le_refl _)] at htk; exact htk)
        have HD := Lib.hid hd
        clear hd htk
        go_wp2
        go_ret
        exact ⟨by rw [HD.out]; rfl, _, rfl⟩
  · have hd : decide (A = B) = false := decide_eq_false fun h => hnm (by rw [← hA, ← hB, h])
    have HD := Lib.hid hd
    clear hd hA hB ra rb
    have hne : (((n : Nat) : Int) != ((m : Nat) : Int)) = true := by simp only [bne_iff_ne]; omega
    go_enter Try.func50, Try.ntmps50
    go_wp2
    go_ret
    exact ⟨by rw [HD.out]; rfl, 0, rfl⟩
end

open Go.ChangeShapes Go.WideShapes Go.ChangeAt Go.RowKit Go.Deep

section
variable {H : Type} {enc : TypeId × Value → H} {P : Program} {w : World} {spare : Nat → Bool} {held : Bool}
theorem open_strsz {t e : TypeId} {ao : Option Addr} {len cap : Nat} {d : DataW H} {p : List MemPlace} (ht : P.underlying t = some (.slice e)) (hC : P.cellsOf e = 1) (he : P.underlying e = some .string) (h : DataW.Trod enc P w 0 spare held t (.slice ao len cap) d p) :
    len ≤ maxLen ∧ ∃ A : List ByteArray, A.length = len ∧ RdS w w.heap.size ao A ∧ ∀ k, k < A.length → (A.getD k emp).size ≤ maxLen := by
  obtain ⟨fuel, hf⟩ := h
  obtain ⟨hl, hm, hall⟩ := open_ones ht hC hf
  obtain ⟨F, hF⟩ := choose_lt (α := ByteArray) (n := len) (p := fun k x => (∃ b off, ao = some ⟨b, off, none⟩ ∧ b < w.heap.size ∧ w.cell? ⟨b, off + k, none⟩ = some (.string x)) ∧ x.size ≤ maxLen) (fun i hi => by
    obtain ⟨b, off, e1, hb, v, n, y, hc, hy⟩ := hall i hi
    obtain ⟨x0, q0, rfl, hs⟩ := DataW.trod_string he hy
    simp only [List.cons.injEq, and_true] at q0
    subst q0
    exact ⟨x0, ⟨b, off, e1, hb, hc⟩, hs⟩)
  refine ⟨by omega, (List.range len).map F, by simp, fun k hk => ?_, fun k hk => ?_⟩
  · have hk' : k < len := by simpa using hk
    have e1 : ((List.range len).map F).getD k emp = F k := by simp [List.getD, hk']
    rw [e1]
    exact (hF k hk').1
  · have hk' : k < len := by simpa using hk
    have e1 : ((List.range len).map F).getD k emp = F k := by simp [List.getD, hk']
    rw [e1]
    exact (hF k hk').2
end

theorem keep_map (b n : Nat) (D : DataW Unit) : KeepQ fun w => MapIs w b n D :=
  ⟨fun hT hf h1 => map_chg h1 hf.chg (fun hq => by
    obtain ⟨_, _, hb, _⟩ := hT.tree.kind hq
    exact map_ne h1 hb rfl), fun hb h1 => map_chg h1 (Chg.of_below hb []) (by simp)⟩
/-- Two trees apart. -/
structure PairT (B1 B2 : Nat) (w : World) (M1 : TrM) (T1 : Tr) (n1 : Nat) (M2 : TrM) (T2 : Tr) (n2 : Nat) : Prop where
  one : TS B1 w M1 T1 n1
  two : TS B2 w M2 T2 n2
  apart : ∀ q ∈ M1.F, q ∉ M2.F
section
variable {B1 B2 n1 n2 n' : Nat} {w w' : World} {M1 M2 M' : TrM} {T1 T2 T' : Tr}
theorem PairT.turn1 (h : PairT B1 B2 w M1 T1 n1 M2 T2 n2) (hS : TS B1 w' M' T' n') (hF : TrFr w M1 M' w') : PairT B1 B2 w' M' T' n' M2 T2 n2 :=
  ⟨hS, h.two.chg hF.chg (fun q h2 h1 => h.apart q h1 h2), fun q hq hq2 => (hF.sub q hq).elim (fun h1 => h.apart q h1 hq2) (fun h1 => by have := h.two.tree.lt hq2; omega)⟩
theorem PairT.turn2 (h : PairT B1 B2 w M1 T1 n1 M2 T2 n2) (hS : TS B2 w' M' T' n') (hF : TrFr w M2 M' w') : PairT B1 B2 w' M1 T1 n1 M' T' n' :=
  ⟨h.one.chg hF.chg (fun q h1 h2 => h.apart q h1 h2), hS, fun q hq hq2 => (hF.sub q hq2).elim (fun h1 => h.apart q hq h1) (fun h1 => by have := h.one.tree.lt hq; omega)⟩
theorem PairT.below (h : PairT B1 B2 w M1 T1 n1 M2 T2 n2) (hb : Below w.heap.size w w') : PairT B1 B2 w' M1 T1 n1 M2 T2 n2 := ⟨h.one.below hb, h.two.below hb, h.apart⟩
theorem PairT.new (h1 : TS B1 w M1 T1 n1) (hb : Below w.heap.size w w') (h2 : TS w.heap.size w' M2 T2 n2) : PairT B1 w.heap.size w' M1 T1 n1 M2 T2 n2 :=
  ⟨h1.below hb, h2, fun q hq hq2 => by have := h1.tree.lt hq; have := h2.tree.ge hq2; omega⟩
end
/-- Two trees, at blocks tb1 and tb2, that hold E1 and E2; a map that holds X. -/
def OrdM (B1 B2 tb1 tb2 n1 n2 : Nat) (E1 E2 : List Ent) (be nn : Nat) (X : List Ent) (w : World) : Prop :=
  ∃ M1 T1 M2 T2 D, PairT B1 B2 w M1 T1 n1 M2 T2 n2 ∧ M1.tb = tb1 ∧ M2.tb = tb2 ∧ entsT T1 = E1 ∧ entsT T2 = E2 ∧ MapE D X ∧ MapIs w be nn D
section
variable {B1 B2 tb1 tb2 n1 n2 be nn : Nat} {E1 E2 X : List Ent} {w w' : World}
theorem OrdM.put1 (h : OrdM B1 B2 tb1 tb2 n1 n2 E1 E2 be nn X w) (hn : n1 ≤ 10000) (k : ByteArray) (v : Int) :
    Calls Try.prog 43 #[.pointer (some ⟨tb1, 0, none⟩), .string k, .int .i64 v] w fun e w' => ∃ r0 r1 r2, e = .returned (.tuple #[.int .i64 r0, .bool r1, .int .i64 r2]) ∧ OrdM B1 B2 tb1 tb2 (n1 + 1) n2 (putSpec E1 k v).1 E2 be nn X w' ∧ Below B1 w w' := by
  obtain ⟨M1, T1, M2, T2, D, hP, rfl, rfl, rfl, rfl, hD, hI⟩ := h
  refine (put_ts hP.one hn k v).mono fun e w' ⟨T', M', r0, r1, r2, hp, he, hS, hF⟩ => ⟨r0, r1, r2, he, ⟨M', T', M2, T2, D, hP.turn1 hS hF, hF.tb, rfl, by rw [hp.ents], rfl, hD, (keep_map be nn D).fr hP.one hF hI⟩, hF.bel hP.one⟩
theorem OrdM.put2 (h : OrdM B1 B2 tb1 tb2 n1 n2 E1 E2 be nn X w) (hn : n2 ≤ 10000) (k : ByteArray) (v : Int) :
    Calls Try.prog 43 #[.pointer (some ⟨tb2, 0, none⟩), .string k, .int .i64 v] w fun e w' => ∃ r0 r1 r2, e = .returned (.tuple #[.int .i64 r0, .bool r1, .int .i64 r2]) ∧ OrdM B1 B2 tb1 tb2 n1 (n2 + 1) E1 (putSpec E2 k v).1 be nn X w' ∧ Below B2 w w' := by
  obtain ⟨M1, T1, M2, T2, D, hP, rfl, rfl, rfl, rfl, hD, hI⟩ := h
  refine (put_ts hP.two hn k v).mono fun e w' ⟨T', M', r0, r1, r2, hp, he, hS, hF⟩ => ⟨r0, r1, r2, he, ⟨M1, T1, M', T', D, hP.turn2 hS hF, rfl, hF.tb, rfl, by rw [hp.ents], hD, (keep_map be nn D).fr hP.two hF hI⟩, hF.bel hP.two⟩
theorem OrdM.take2 (h : OrdM B1 B2 tb1 tb2 n1 n2 E1 E2 be nn X w) (hn : n2 ≤ 10000) (k : ByteArray) :
    Calls Try.prog 46 #[.pointer (some ⟨tb2, 0, none⟩), .string k] w fun e w' => ∃ r0 r1, e = .returned (.tuple #[.int .i64 r0, .int .i64 r1]) ∧ OrdM B1 B2 tb1 tb2 n1 (n2 + 1) E1 (takeSpec E2 k).1 be nn X w' ∧ Below B2 w w' := by
  obtain ⟨M1, T1, M2, T2, D, hP, rfl, rfl, rfl, rfl, hD, hI⟩ := h
  refine (take_ts hP.two hn k).mono fun e w' ⟨T', M', r0, r1, hp, he, hS, hF⟩ => ⟨r0, r1, he, ⟨M1, T1, M', T', D, hP.turn2 hS hF, rfl, hF.tb, rfl, by rw [hp.ents], hD, (keep_map be nn D).fr hP.two hF hI⟩, hF.bel hP.two⟩
theorem OrdM.below (h : OrdM B1 B2 tb1 tb2 n1 n2 E1 E2 be nn X w) (hb : Below w.heap.size w w') : OrdM B1 B2 tb1 tb2 n1 n2 E1 E2 be nn X w' := by
  obtain ⟨M1, T1, M2, T2, D, hP, h1, h2, h3, h4, hD, hI⟩ := h
  exact ⟨M1, T1, M2, T2, D, hP.below hb, h1, h2, h3, h4, hD, (keep_map be nn D).bel hb hI⟩
theorem OrdM.mono2 (h : OrdM B1 B2 tb1 tb2 n1 n2 E1 E2 be nn X w) {m : Nat} (hm : n2 ≤ m) : OrdM B1 B2 tb1 tb2 n1 m E1 E2 be nn X w := by
  obtain ⟨M1, T1, M2, T2, D, hP, h⟩ := h
  exact ⟨M1, T1, M2, T2, D, ⟨hP.one, hP.two.mono hm, hP.apart⟩, h⟩
theorem OrdM.sort1 (h : OrdM B1 B2 tb1 tb2 n1 n2 E1 E2 be nn X w) : SortedE E1 := by
  obtain ⟨M1, T1, M2, T2, D, hP, _, _, rfl, _⟩ := h
  exact hP.one.ok.sorted
theorem OrdM.sort2 (h : OrdM B1 B2 tb1 tb2 n1 n2 E1 E2 be nn X w) : SortedE E2 := by
  obtain ⟨M1, T1, M2, T2, D, hP, _, _, _, rfl, _⟩ := h
  exact hP.two.ok.sorted
end

end Go.Proofs.Ythplnecnagbedaa
