/- The tree's plain model: how leaves change, what their counts tell; Put and Take as laws on the whole tree; conditions: none. -/
import Derived.Test.YthplnecnagbedaaTrLaw
namespace Go.Proofs.Ythplnecnagbedaa

def hd1 (T : Tr) : Option (Nat × ByteArray) := T.head?.map fun l => (l.num, l.least)
/-- A leaf, and what became of it. -/
structure LfTo (l l' : Lf) (B B' : Tr) : Prop where
  num : l'.num = l.num
  least : l'.least = l.least
  ins : l.nd.ins ≤ l'.nd.ins
  spl : l.nd.spl ≤ l'.nd.spl
  keys : l'.nd.ins = l.nd.ins → l'.nd.spl = l.nd.spl → keysM l'.nd = keysM l.nd
  next : l'.nd.spl = l.nd.spl → hd1 B' = hd1 B
def Rel (T T' : Tr) : Prop := ∀ A l B, T = A ++ l :: B → ∃ A' l' B', T' = A' ++ l' :: B' ∧ LfTo l l' B B'
theorem LfTo.refl (l : Lf) (B : Tr) : LfTo l l B B := ⟨rfl, rfl, Nat.le_refl _, Nat.le_refl _, fun _ _ => rfl, fun _ => rfl⟩
theorem LfTo.trans {l l' l'' : Lf} {B B' B'' : Tr} (h : LfTo l l' B B') (g : LfTo l' l'' B' B'') : LfTo l l'' B B'' := by
  have h3 := h.ins
  have h4 := h.spl
  have g3 := g.ins
  have g4 := g.spl
  exact ⟨g.num.trans h.num, g.least.trans h.least, Nat.le_trans h3 g3, Nat.le_trans h4 g4, fun a b => (g.keys (by omega) (by omega)).trans (h.keys (by omega) (by omega)), fun b => (g.next (by omega)).trans (h.next (by omega))⟩
theorem Rel.refl (T : Tr) : Rel T T := fun A l B h => ⟨A, l, B, h, LfTo.refl l B⟩
theorem Rel.trans {T T' T'' : Tr} (h : Rel T T') (g : Rel T' T'') : Rel T T'' := fun A l B e => by
  obtain ⟨A', l', B', e', h'⟩ := h A l B e
  obtain ⟨A'', l'', B'', e'', g'⟩ := g A' l' B' e'
  exact ⟨A'', l'', B'', e'', h'.trans g'⟩
/-- One leaf turned, what stands behind it too, the rest as it was. -/
theorem rel_mid {T1 T2 X : Tr} {l l' : Lf} (hl : LfTo l l' T2 X) (hX : ∀ A m B, T2 = A ++ m :: B → ∃ A' B', X = A' ++ m :: B' ∧ hd1 B' = hd1 B) : Rel (T1 ++ l :: T2) (T1 ++ l' :: X) := by
  intro A m B e
  rcases List.append_eq_append_iff.1 e with ⟨a, rfl, e2⟩ | ⟨c, rfl, e2⟩
  · cases a with
    | nil =>
      simp only [List.nil_append, List.cons.injEq] at e2
      obtain ⟨rfl, rfl⟩ := e2
      exact ⟨T1, l', X, rfl, hl⟩
    | cons x a =>
      simp only [List.cons_append, List.cons.injEq] at e2
      obtain ⟨A', B', e3, e4⟩ := hX a m B e2.2
      exact ⟨T1 ++ l' :: A', m, B', by rw [e3]; simp, rfl, rfl, Nat.le_refl _, Nat.le_refl _, fun _ _ => rfl, fun _ => e4⟩
  · cases c with
    | nil =>
      simp only [List.nil_append, List.cons.injEq] at e2
      obtain ⟨rfl, rfl⟩ := e2
      exact ⟨A, l', X, by simp, hl⟩
    | cons x c =>
      simp only [List.cons_append, List.cons.injEq] at e2
      obtain ⟨rfl, rfl⟩ := e2
      refine ⟨A, m, c ++ l' :: X, by simp, rfl, rfl, Nat.le_refl _, Nat.le_refl _, fun _ _ => rfl, fun _ => ?_⟩
      cases c with
      | nil => simp [hd1, hl.num, hl.least]
      | cons y c => rfl
theorem rel_set {T1 T2 : Tr} {l : Lf} {N' : Nd} (h : Told l.nd N') : Rel (T1 ++ l :: T2) (T1 ++ ⟨l.num, l.least, N'⟩ :: T2) :=
  rel_mid ⟨rfl, rfl, h.1, h.2.1, fun a b => h.2.2.1 ⟨a, b⟩, fun _ => rfl⟩ fun A _ B e => ⟨A, B, e, rfl⟩
theorem splitL_spl (N : Nd) : (splitL N).spl = N.spl + 1 := rfl
theorem splitN_two {N : Nd} (hu : 2 ≤ N.u) : splitN N = splitL N := by unfold splitN; rw [if_neg (by omega)]
theorem rel_split {T1 T2 : Tr} {l : Lf} (hok : NdOk l.nd) (hu : 2 ≤ l.nd.u) (r : Lf) : Rel (T1 ++ l :: T2) (T1 ++ ⟨l.num, l.least, splitL l.nd⟩ :: r :: T2) := by
  have h := told_split hok
  rw [splitN_two hu] at h
  have h2 := splitL_spl l.nd
  exact rel_mid ⟨rfl, rfl, h.1, h.2.1, fun a b => h.2.2.1 ⟨a, b⟩, fun b => by dsimp only at b; omega⟩ fun A m B e => ⟨r :: A, B, by rw [e]; rfl, rfl⟩

def cntT (T : Tr) : List (Nat × ByteArray × Nat × Nat) := T.map fun l => (l.num, l.least, l.nd.ins, l.nd.spl)
def Nums (T : Tr) : Prop := (T.map (·.num)).Perm (List.range T.length)
theorem Nums.nd {T : Tr} (h : Nums T) : (T.map (·.num)).Nodup := (List.Perm.nodup_iff h).2 List.nodup_range
theorem Nums.lt {T : Tr} (h : Nums T) : ∀ l ∈ T, l.num < T.length := fun l hl => List.mem_range.1 ((List.Perm.mem_iff h).1 (List.mem_map.2 ⟨l, hl, rfl⟩))
theorem Nums.sur {T : Tr} (h : Nums T) {j : Nat} (hj : j < T.length) : ∃ l ∈ T, l.num = j := List.mem_map.1 ((List.Perm.mem_iff h).2 (List.mem_range.2 hj))
def Bnd (n : Nat) (T : Tr) : Prop := T.length ≤ n + 1 ∧ ∀ l ∈ T, l.nd.ins ≤ 40 * n ∧ l.nd.spl ≤ n
theorem Bnd.mono {n m : Nat} {T : Tr} (h : Bnd n T) (hm : n ≤ m) : Bnd m T := ⟨by have := h.1; omega, fun l hl => by have := h.2 l hl; omega⟩
/-- What a call made of a tree. -/
structure Turn (T T' : Tr) : Prop where
  ok : TrOk T'
  rel : Rel T T'
  same : (entsT T').length = (entsT T).length → cntT T' = cntT T
  nums : Nums T → Nums T'
  bnd : ∀ n, Bnd n T → Bnd (n + 1) T'
theorem Turn.none {T : Tr} (h : TrOk T) : Turn T T := ⟨h, Rel.refl T, fun _ => rfl, fun h => h, fun n h => h.mono (by omega)⟩
section
variable {T1 T2 : Tr} {l : Lf} {N' : Nd}
theorem nums_set (h : Nums (T1 ++ l :: T2)) : Nums (T1 ++ ⟨l.num, l.least, N'⟩ :: T2) := by
  unfold Nums at h ⊢
  simpa using h
theorem bnd_set {n : Nat} (h : Bnd n (T1 ++ l :: T2)) (hi : N'.ins ≤ 40 * (n + 1)) (hs : N'.spl ≤ n + 1) : Bnd (n + 1) (T1 ++ ⟨l.num, l.least, N'⟩ :: T2) := by
  obtain ⟨h1, h2⟩ := h
  refine ⟨by simp at h1 ⊢; omega, fun m hm => ?_⟩
  rcases List.mem_append.1 hm with hm | hm
  · have := h2 m (by simp [hm]); omega
  · rcases List.mem_cons.1 hm with rfl | hm
    · exact ⟨hi, hs⟩
    · have := h2 m (by simp [hm]); omega
theorem cnt_set (hi : N'.ins = l.nd.ins) (hs : N'.spl = l.nd.spl) : cntT (T1 ++ ⟨l.num, l.least, N'⟩ :: T2) = cntT (T1 ++ l :: T2) := by simp [cntT, hi, hs]
theorem nums_split (h : Nums (T1 ++ l :: T2)) (k : ByteArray) (L R : Nd) : Nums (T1 ++ ⟨l.num, l.least, L⟩ :: ⟨(T1 ++ l :: T2).length, k, R⟩ :: T2) := by
  unfold Nums at h ⊢
  generalize hn : (T1 ++ l :: T2).length = n at h
  have hn2 : (T1 ++ ⟨l.num, l.least, L⟩ :: ⟨n, k, R⟩ :: T2).length = n + 1 := by rw [← hn]; simp; omega
  rw [hn2]
  have hp : (List.map (·.num) (T1 ++ ⟨l.num, l.least, L⟩ :: ⟨n, k, R⟩ :: T2)).Perm (n :: List.map (·.num) (T1 ++ l :: T2)) := by
    simp only [List.map_append, List.map_cons]
    have e : List.map (·.num) T1 ++ l.num :: n :: List.map (·.num) T2 = (List.map (·.num) T1 ++ [l.num]) ++ n :: List.map (·.num) T2 := by simp
    rw [e]
    refine List.perm_middle.trans ?_
    simp
  refine hp.trans ((List.Perm.cons n h).trans ?_)
  rw [List.range_succ]
  exact (List.perm_append_singleton n (List.range n)).symm
theorem bnd_split {n : Nat} (h : Bnd n (T1 ++ l :: T2)) {j : Nat} {k : ByteArray} {L R : Nd} (hL : L.ins ≤ 40 * (n + 1)) (hLs : L.spl ≤ n + 1) (hR : R.ins ≤ 40 * (n + 1)) (hRs : R.spl ≤ n + 1) : Bnd (n + 1) (T1 ++ ⟨l.num, l.least, L⟩ :: ⟨j, k, R⟩ :: T2) := by
  obtain ⟨h1, h2⟩ := h
  refine ⟨by simp at h1 ⊢; omega, fun m hm => ?_⟩
  rcases List.mem_append.1 hm with hm | hm
  · have := h2 m (by simp [hm]); omega
  · rcases List.mem_cons.1 hm with rfl | hm
    · exact ⟨hL, hLs⟩
    · rcases List.mem_cons.1 hm with rfl | hm
      · exact ⟨hR, hRs⟩
      · have := h2 m (by simp [hm]); omega
end
theorem putM_spl (N : Nd) (k : ByteArray) (v : Int) : (putM N k v).1.spl = N.spl := by
  unfold putM
  split
  · rfl
  · split
    · rfl
    · split <;> rfl
theorem putM_same {N : Nd} {k : ByteArray} (v : Int) (h : hasE N.ents k = true) : (putM N k v).1.ins = N.ins := by
  unfold putM
  rw [if_pos h]
  split <;> rfl
theorem takeM_same {N : Nd} {k : ByteArray} (h : hasE N.ents k = false) : (takeM N k).1 = N := by unfold takeM; rw [h]; rfl
theorem get_of_has {A : List Ent} {k : ByteArray} (h : hasE A k = true) : ∃ u, getE A k = some u := by unfold getE; rw [if_pos h]; exact ⟨_, rfl⟩
theorem putE_len_has {A : List Ent} {k : ByteArray} (h : hasE A k = false) (v : Int) : (putE A k v).length = A.length + 1 := by rw [put_len, h]; rfl

/-- What Put made of a tree, and told. -/
structure PutT (T : Tr) (k : ByteArray) (v : Int) (T' : Tr) (r : Int × Bool × Int) : Prop where
  turn : Turn T T'
  ents : entsT T' = (putSpec (entsT T) k v).1
  res : r = (putSpec (entsT T) k v).2
section
variable {T T1 T2 : Tr} {l : Lf} {k : ByteArray} {v : Int}
theorem putT_long (ht : TrOk T) (hk : 4096 < k.size) : PutT T k v T (0, false, 2) := by
  refine ⟨Turn.none ht, ?_, ?_⟩ <;> (unfold putSpec; rw [if_pos hk])
theorem putT_full (ht : TrOk T) (hk : ¬ 4096 < k.size) (hh : hasE (entsT T) k = false) (hn : 4096 ≤ (entsT T).length) : PutT T k v T (0, false, 2) := by
  refine ⟨Turn.none ht, ?_, ?_⟩ <;> (unfold putSpec; rw [if_neg hk, get_has hh]; dsimp only; rw [if_pos hn])
theorem putT_old (ht : TrOk T) (ha : AtLf T k T1 l T2) (hk : ¬ 4096 < k.size) (hh : hasE l.nd.ents k = true) : PutT T k v (T1 ++ ⟨l.num, l.least, (putM l.nd k v).1⟩ :: T2) (putM l.nd k v).2 := by
  have hok := ht.ok l ha.mem
  have hh2 := hh
  rw [← ha.has ht] at hh2
  obtain ⟨u, hu⟩ := get_of_has hh2
  have hu1 : getE l.nd.ents k = some u := by rw [← ha.get ht]; exact hu
  have hr : (putM l.nd k v).2 = (u, true, 0) := by
    rw [putM_out hok]; unfold putOut; rw [if_neg hk, hu1]
  have he : (putM l.nd k v).1.ents = putE l.nd.ents k v := by rw [putM_ents hok, hr]; rfl
  have hs : putSpec (entsT T) k v = (putE (entsT T) k v, u, true, 0) := by unfold putSpec; rw [if_neg hk, hu]
  obtain ⟨q1, q2⟩ := put_leaf ht ha (putM_ok hok k v) he
  refine ⟨⟨q1, ?_, fun _ => ?_, ?_, ?_⟩, by rw [q2, hs], by rw [hr, hs]⟩
  · rw [ha.eq]; exact rel_set (told_put hok k v)
  · rw [ha.eq]; exact cnt_set (putM_same v hh) (putM_spl _ _ _)
  · rw [ha.eq]; exact nums_set
  · rw [ha.eq]
    intro n hb
    have := hb.2 l (by simp)
    have h1 := putM_ins l.nd k v
    exact bnd_set hb (by omega) (by rw [putM_spl]; omega)
theorem putT_new (ht : TrOk T) (ha : AtLf T k T1 l T2) (hk : ¬ 4096 < k.size) (hh : hasE l.nd.ents k = false) (hn : (entsT T).length < 4096) (hu : l.nd.u ≠ 15) : PutT T k v (T1 ++ ⟨l.num, l.least, (putM l.nd k v).1⟩ :: T2) (putM l.nd k v).2 := by
  have hok := ht.ok l ha.mem
  have hh2 := hh
  rw [← ha.has ht] at hh2
  have hr : (putM l.nd k v).2 = (0, false, 0) := by
    rw [putM_out hok]; unfold putOut; rw [if_neg hk, get_has hh]; dsimp only; rw [if_neg (by rw [ents_len]; exact hu)]
  have he : (putM l.nd k v).1.ents = putE l.nd.ents k v := by rw [putM_ents hok, hr]; rfl
  have hs : putSpec (entsT T) k v = (putE (entsT T) k v, 0, false, 0) := by unfold putSpec; rw [if_neg hk, get_has hh2]; dsimp only; rw [if_neg (by omega)]
  obtain ⟨q1, q2⟩ := put_leaf ht ha (putM_ok hok k v) he
  refine ⟨⟨q1, ?_, fun hl => ?_, ?_, ?_⟩, by rw [q2, hs], by rw [hr, hs]⟩
  · rw [ha.eq]; exact rel_set (told_put hok k v)
  · rw [q2, putE_len_has hh2] at hl; omega
  · rw [ha.eq]; exact nums_set
  · rw [ha.eq]
    intro n hb
    have := hb.2 l (by simp)
    have h1 := putM_ins l.nd k v
    exact bnd_set hb (by omega) (by rw [putM_spl]; omega)
theorem splitL_ins' {N : Nd} (hu : 2 ≤ N.u) : (splitL N).ins ≤ N.ins + 15 := by have := splitN_ins N; rwa [splitN_two hu] at this
theorem upper_len (N : Nd) : (upperM N).length ≤ N.u := by unfold upperM; rw [List.length_drop, keysM_len]; omega
theorem splitR_ins {N : Nd} (h : NdOk N) : (splitR N).ins ≤ 15 := by
  have h1 := putAll_ins N nd0 (upperM N)
  have h2 := upper_len N
  have h3 := h.u15
  have h4 : nd0.ins = 0 := rfl
  have h5 : (splitR N).ins = (putAll N nd0 (upperM N)).ins := rfl
  omega
theorem putAll_spl (N R : Nd) (L : List ByteArray) : (putAll N R L).spl = R.spl := by
  induction L generalizing R with
  | nil => rfl
  | cons k L ih =>
    have : putAll N R (k :: L) = putAll N (putM R k (getM N k).1).1 L := rfl
    rw [this, ih, putM_spl]
theorem splitR_spl (N : Nd) : (splitR N).spl = 0 := putAll_spl N nd0 (upperM N)
/-- The tree behind a split. -/
def cutT (T1 : Tr) (l : Lf) (T2 : Tr) (L R : Nd) : Tr := T1 ++ ⟨l.num, l.least, L⟩ :: ⟨(T1 ++ l :: T2).length, (upperM l.nd).getD 0 emp, R⟩ :: T2
theorem half_put {N : Nd} (hok : NdOk N) (hk : ¬ 4096 < k.size) (hh : hasE N.ents k = false) (hu : N.u ≠ 15) : (putM N k v).2 = (0, false, 0) ∧ (putM N k v).1.ents = putE N.ents k v := by
  have hr : (putM N k v).2 = (0, false, 0) := by
    rw [putM_out hok]; unfold putOut; rw [if_neg hk, get_has hh]; dsimp only; rw [if_neg (by rw [ents_len]; exact hu)]
  exact ⟨hr, by rw [putM_ents hok, hr]; rfl⟩
theorem putT_split (ht : TrOk T) (ha : AtLf T k T1 l T2) (hk : ¬ 4096 < k.size) (hh : hasE l.nd.ents k = false) (hn : (entsT T).length < 4096) (hu : l.nd.u = 15) :
    (bl k ((upperM l.nd).getD 0 emp) = true → PutT T k v (cutT T1 l T2 (putM (splitL l.nd) k v).1 (splitR l.nd)) (putM (splitL l.nd) k v).2) ∧
    (bl k ((upperM l.nd).getD 0 emp) = false → PutT T k v (cutT T1 l T2 (splitL l.nd) (putM (splitR l.nd) k v).1) (putM (splitR l.nd) k v).2) := by
  have hok := ht.ok l ha.mem
  have hh2 := hh
  rw [← ha.has ht] at hh2
  obtain ⟨s1, s2⟩ := ht.split ha.eq (by omega) (T1 ++ l :: T2).length
  obtain ⟨u1, u2⟩ := half_u hok hu
  obtain ⟨hl, hr⟩ := half_has hok hh
  have hs : putSpec (entsT T) k v = (putE (entsT T) k v, 0, false, 0) := by unfold putSpec; rw [if_neg hk, get_has hh2]; dsimp only; rw [if_neg (by omega)]
  have hrel := rel_split (T1 := T1) (T2 := T2) hok (by omega) ⟨(T1 ++ l :: T2).length, (upperM l.nd).getD 0 emp, splitR l.nd⟩
  have i1 := splitL_ins' (N := l.nd) (by omega)
  have i2 := splitR_ins hok
  have i3 := splitL_spl l.nd
  have i4 := splitR_spl l.nd
  constructor
  · intro hlt
    obtain ⟨r1, r2⟩ := half_put (v := v) (splitL_ok hok) hk hl (by omega)
    have hat : AtLf _ k T1 ⟨l.num, l.least, splitL l.nd⟩ (⟨(T1 ++ l :: T2).length, (upperM l.nd).getD 0 emp, splitR l.nd⟩ :: T2) := ha.left (L := splitL l.nd) hlt
    obtain ⟨q1, q2⟩ := put_leaf s1 hat (putM_ok (splitL_ok hok) k v) r2
    refine ⟨⟨q1, ?_, fun hle => ?_, ?_, ?_⟩, ?_, by rw [r1, hs]⟩
    · rw [ha.eq]
      exact hrel.trans (rel_set (told_put (splitL_ok hok) k v))
    · have e : entsT (cutT T1 l T2 (putM (splitL l.nd) k v).1 (splitR l.nd)) = putE (entsT T) k v := by rw [← s2]; exact q2
      rw [e, putE_len_has hh2] at hle; omega
    · rw [ha.eq]; exact fun h => nums_split h _ _ _
    · rw [ha.eq]
      intro n hb
      have := hb.2 l (by simp)
      have h1 := putM_ins (splitL l.nd) k v
      have h2 := putM_spl (splitL l.nd) k v
      exact bnd_split hb (by omega) (by omega) (by omega) (by omega)
    · rw [hs]; show _ = putE (entsT T) k v; rw [← s2]; exact q2
  · intro hge
    obtain ⟨r1, r2⟩ := half_put (v := v) (splitR_ok l.nd) hk hr (by omega)
    have hat : AtLf _ k (T1 ++ [⟨l.num, l.least, splitL l.nd⟩]) ⟨(T1 ++ l :: T2).length, (upperM l.nd).getD 0 emp, splitR l.nd⟩ T2 := ha.right (L := splitL l.nd) hge
    obtain ⟨q1, q2⟩ := put_leaf s1 hat (putM_ok (splitR_ok l.nd) k v) r2
    have ec : cutT T1 l T2 (splitL l.nd) (putM (splitR l.nd) k v).1 = T1 ++ [⟨l.num, l.least, splitL l.nd⟩] ++ ⟨(T1 ++ l :: T2).length, (upperM l.nd).getD 0 emp, (putM (splitR l.nd) k v).1⟩ :: T2 := by unfold cutT; simp
    rw [ec]
    have es : T1 ++ ⟨l.num, l.least, splitL l.nd⟩ :: ⟨(T1 ++ l :: T2).length, (upperM l.nd).getD 0 emp, splitR l.nd⟩ :: T2 = T1 ++ [⟨l.num, l.least, splitL l.nd⟩] ++ ⟨(T1 ++ l :: T2).length, (upperM l.nd).getD 0 emp, splitR l.nd⟩ :: T2 := by simp
    refine ⟨⟨q1, ?_, fun hle => ?_, ?_, ?_⟩, ?_, by rw [r1, hs]⟩
    · rw [ha.eq]
      refine hrel.trans ?_
      rw [es]
      exact rel_set (l := ⟨(T1 ++ l :: T2).length, (upperM l.nd).getD 0 emp, splitR l.nd⟩) (told_put (splitR_ok l.nd) k v)
    · rw [q2, s2, putE_len_has hh2] at hle; omega
    · rw [← ec, ha.eq]; exact fun h => nums_split h _ _ _
    · rw [← ec, ha.eq]
      intro n hb
      have := hb.2 l (by simp)
      have h1 := putM_ins (splitR l.nd) k v
      have h2 := putM_spl (splitR l.nd) k v
      exact bnd_split hb (by omega) (by omega) (by omega) (by omega)
    · rw [hs]; show _ = putE (entsT T) k v; rw [← s2]; exact q2
/-- What Take made of a tree, and told. -/
structure TakeT (T : Tr) (k : ByteArray) (T' : Tr) (r : Int × Int) : Prop where
  turn : Turn T T'
  ents : entsT T' = (takeSpec (entsT T) k).1
  res : r = (takeSpec (entsT T) k).2
theorem takeT_any (ht : TrOk T) (ha : AtLf T k T1 l T2) : TakeT T k (T1 ++ ⟨l.num, l.least, (takeM l.nd k).1⟩ :: T2) (takeM l.nd k).2 := by
  have hok := ht.ok l ha.mem
  obtain ⟨q1, q2⟩ := take_leaf ht ha
  have hg := ha.get ht
  have hh := ha.has ht
  refine ⟨⟨q1, ?_, fun hle => ?_, ?_, ?_⟩, ?_, ?_⟩
  · rw [ha.eq]; exact rel_set (told_take hok k)
  · cases hc : hasE l.nd.ents k with
    | true =>
      rw [hc] at hh
      rw [q2, take_len, hh, if_pos rfl] at hle
      have := has_lt hh
      omega
    | false =>
      rw [takeM_same hc, ha.eq]
  · rw [ha.eq]; exact nums_set
  · rw [ha.eq]
    intro n hb
    have := hb.2 l (by simp)
    have h1 := takeM_ins l.nd k
    exact bnd_set hb (by omega) (by rw [takeM_spl]; omega)
  · rw [q2]
    unfold takeSpec
    cases hc : getE (entsT T) k with
    | some u => rfl
    | none =>
      have : hasE (entsT T) k = false := by
        cases h : hasE (entsT T) k with
        | false => rfl
        | true => obtain ⟨u, hu⟩ := get_of_has h; rw [hc] at hu; cases hu
      unfold takeE; rw [this]; rfl
  · rw [takeM_out hok]
    unfold takeOut takeSpec
    rw [← hg]
    cases getE (entsT T) k <;> rfl
end

end Go.Proofs.Ythplnecnagbedaa
