/- The tree's plain model: what a scan tells and sees; what seen leaves tell of later scans; conditions: none. -/
import Derived.Test.YthplnecnagbedaaTrSeen
namespace Go.Proofs.Ythplnecnagbedaa

def seenL (l : Lf) : Nat × Nat × Nat := (l.num, l.nd.ins, l.nd.spl)
def validM (T : Tr) (S : List (Nat × Nat × Nat)) : Bool := S.all fun s => T.any fun l => decide (seenL l = s)
theorem validM_cnt {T T' : Tr} (h : cntT T' = cntT T) (S : List (Nat × Nat × Nat)) : validM T' S = validM T S := by
  have e : ∀ (T : Tr) (s : Nat × Nat × Nat), (T.any fun l => decide (seenL l = s)) = ((cntT T).any fun c => decide ((c.1, c.2.2.1, c.2.2.2) = s)) := fun T s => by
    unfold cntT
    rw [List.any_map]
    rfl
  unfold validM
  simp only [e, h]
theorem validM_mem {T : Tr} {S : List (Nat × Nat × Nat)} : validM T S = true ↔ ∀ s ∈ S, ∃ l ∈ T, seenL l = s := by simp [validM]

/-- What is handed out of a leaf: first no key. -/
def evL (fr : ByteArray) (l : Lf) : List (Lf × ByteArray) := (l, emp) :: ((keysM l.nd).filter fun k => !bl k fr && decide (k ≠ emp)).map fun k => (l, k)
def evT (fr : ByteArray) (T : Tr) : List (Lf × ByteArray) := T.flatMap (evL fr)
structure ScS where
  A : List Ent
  S : List (Nat × Nat × Nat)
def stopS (tk : ByteArray) (most : Nat) (st : ScS) (x : Lf × ByteArray) : Bool := decide (st.A.length = most) || (decide (tk ≠ emp) && (!bl x.2 tk || (decide (x.2 = emp) && !bl x.1.least tk)))
def stepS (fr : ByteArray) (st : ScS) (x : Lf × ByteArray) : ScS :=
  if x.2 = emp then ⟨if hasE x.1.nd.ents emp && decide (fr = emp) then st.A ++ [(emp, (getM x.1.nd emp).1)] else st.A, st.S ++ [seenL x.1]⟩
  else ⟨st.A ++ [(x.2, (getM x.1.nd x.2).1)], st.S⟩
def runS (fr tk : ByteArray) (most : Nat) : List (Lf × ByteArray) → ScS → ScS
  | [], st => st
  | x :: E, st => if stopS tk most st x then st else runS fr tk most E (stepS fr st x)
def sc0 : ScS := ⟨[], []⟩
/-- What is tk be told, of all entries. -/
def goE (tk : ByteArray) (most : Nat) : List Ent → List Ent → List Ent
  | [], A => A
  | e :: E, A => if decide (A.length = most) || (decide (tk ≠ emp) && !bl e.1 tk) then A else goE tk most E (A ++ [e])
def scanE (A : List Ent) (fr tk : ByteArray) (most : Nat) : List Ent := goE tk most (A.filter fun e => !bl e.1 fr) []
def scanT (T : Tr) (fr tk : ByteArray) (most : Nat) : ScS := runS fr tk most (evT fr (T.drop (findT T fr))) sc0

section
variable {fr tk : ByteArray} {most : Nat}
theorem goE_full {A : List Ent} (h : A.length = most) (E : List Ent) : goE tk most E A = A := by
  cases E with
  | nil => rfl
  | cons e E => unfold goE; rw [if_pos (by simp [h])]
theorem goE_past {A E : List Ent} (ht : tk ≠ emp) (h : ∀ e ∈ E, bl e.1 tk = false) : goE tk most E A = A := by
  cases E with
  | nil => rfl
  | cons e E => unfold goE; rw [if_pos (by simp [ht, h e (by simp)])]
theorem emp_bl {k : ByteArray} (h : k ≠ emp) : bl emp k = true := by
  rcases bl_total emp k with e | e | e
  · exact e
  · exact absurd e.symm h
  · rw [bl_emp] at e; cases e
theorem run_keys {l : Lf} {G : List Ent} {R : List (Lf × ByteArray)} (hR : ∀ st, (runS fr tk most R st).A = goE tk most G st.A) : ∀ (F : List Ent) (st : ScS), (∀ e ∈ F, e.1 ≠ emp ∧ (getM l.nd e.1).1 = e.2) →
    (runS fr tk most ((F.map fun e => (l, e.1)) ++ R) st).A = goE tk most (F ++ G) st.A := by
  intro F
  induction F with
  | nil => exact fun st _ => hR st
  | cons e F ih =>
    intro st hF
    obtain ⟨h1, h2⟩ := hF e (by simp)
    simp only [List.map_cons, List.cons_append, runS, goE]
    have hs : stopS tk most st (l, e.1) = (decide (st.A.length = most) || (decide (tk ≠ emp) && !bl e.1 tk)) := by
      unfold stopS; simp [h1]
    rw [hs]
    cases (decide (st.A.length = most) || (decide (tk ≠ emp) && !bl e.1 tk)) with
    | true => rfl
    | false =>
      simp only [Bool.false_eq_true, if_false]
      rw [ih _ (fun x hx => hF x (by simp [hx]))]
      have : (stepS fr st (l, e.1)).A = st.A ++ [e] := by
        unfold stepS
        rw [if_neg h1]
        show st.A ++ [(e.1, (getM l.nd e.1).1)] = _
        rw [h2]
      rw [this]
theorem getM_mem {N : Nd} (h : NdOk N) {e : Ent} (he : e ∈ N.ents) : (getM N e.1).1 = e.2 := by
  have : getE N.ents e.1 = some e.2 := (get_iff h.sorted).2 he
  unfold getM; rw [this]
theorem keys_filter (N : Nd) (fr : ByteArray) : ((keysM N).filter fun k => !bl k fr && decide (k ≠ emp)) = (N.ents.filter fun e => !bl e.1 fr && decide (e.1 ≠ emp)).map (·.1) := by
  unfold keysM; rw [List.filter_map]; rfl
/-- The empty key stands first, if it is there. -/
theorem ents_emp {N : Nd} (h : NdOk N) (fr : ByteArray) : (N.ents.filter fun e => !bl e.1 fr) =
    (if hasE N.ents emp && decide (fr = emp) then [(emp, (getM N emp).1)] else []) ++ (N.ents.filter fun e => !bl e.1 fr && decide (e.1 ≠ emp)) := by
  by_cases hf : fr = emp
  · subst hf
    have h0 : ∀ e : Ent, (!bl e.1 emp) = true := fun e => by rw [bl_emp]; rfl
    have h1 : (N.ents.filter fun e => !bl e.1 emp) = N.ents := List.filter_eq_self.2 fun e _ => h0 e
    have h2 : (N.ents.filter fun e => !bl e.1 emp && decide (e.1 ≠ emp)) = N.ents.filter fun e => decide (e.1 ≠ emp) := List.filter_congr fun e _ => by rw [h0]; rfl
    have h3 : (hasE N.ents emp && decide (emp = emp)) = hasE N.ents emp := by simp
    rw [h1, h2, h3]
    cases hh : hasE N.ents emp with
    | true =>
      obtain ⟨v, hv⟩ := has_at hh
      have hc := cut_at hv
      have hl0 : lbE N.ents emp = 0 := by
        have : N.ents.takeWhile (fun e => bl e.1 emp) = [] := by
          cases hE : N.ents with
          | nil => rfl
          | cons e E => rw [List.takeWhile_cons, bl_emp]; rfl
        unfold lbE; rw [this]; rfl
      rw [hl0] at hc hv
      simp only [List.take_zero, List.nil_append, Nat.zero_add] at hc
      have hv2 : (getM N emp).1 = v := by
        have := getM_mem h (e := (emp, v)) (List.mem_of_getElem? hv)
        exact this
      rw [if_pos rfl, hv2, List.singleton_append]
      have hs := h.sorted
      rw [hc] at hs
      have hlt := (List.pairwise_cons.1 hs).1
      have hf : (N.ents.filter fun e => decide (e.1 ≠ emp)) = N.ents.drop 1 := by
        conv => lhs; rw [hc]
        rw [List.filter_cons, if_neg (by simp)]
        apply List.filter_eq_self.2
        intro e he
        have := bl_ne (hlt e he)
        simpa using fun x => this x.symm
      rw [hf]
      exact hc
    | false =>
      rw [if_neg (by simp), List.nil_append]
      symm
      apply List.filter_eq_self.2
      intro e he
      simp only [decide_eq_true_eq]
      rintro hk
      have : hasE N.ents emp = true := (has_iff h.sorted).2 ⟨e.2, by rw [← hk]; exact he⟩
      rw [hh] at this; cases this
  · have hc : (hasE N.ents emp && decide (fr = emp)) = false := by simp [hf]
    rw [hc]
    simp only [Bool.false_eq_true, if_false, List.nil_append]
    apply List.filter_congr
    intro e _
    by_cases he : e.1 = emp
    · rw [he, emp_bl hf]; rfl
    · simp [he]
theorem entsT_filter (l : Lf) (L : Tr) (p : Ent → Bool) : (entsT (l :: L)).filter p = l.nd.ents.filter p ++ (entsT L).filter p := by rw [entsT_cons, List.filter_append]
theorem evT_cons (l : Lf) (L : Tr) : evT fr (l :: L) = evL fr l ++ evT fr L := by simp [evT]
theorem run_leaves : ∀ (L : Tr) (st : ScS), (∀ l ∈ L, NdOk l.nd) → (L.Pairwise fun a b => bl a.least b.least = true) → (∀ l ∈ L, ∀ e ∈ l.nd.ents, bl e.1 l.least = false) →
    (runS fr tk most (evT fr L) st).A = goE tk most ((entsT L).filter fun e => !bl e.1 fr) st.A := by
  intro L
  induction L with
  | nil => intro st _ _ _; rfl
  | cons l L ih =>
    intro st hok hord hlow
    obtain ⟨o1, o2⟩ := List.pairwise_cons.1 hord
    rw [evT_cons, entsT_filter]
    show (runS fr tk most ((l, emp) :: (_ ++ _)) st).A = _
    unfold runS
    cases hst : stopS tk most st (l, emp) with
    | true =>
      simp only [if_true]
      unfold stopS at hst
      simp only [decide_true, Bool.true_and, Bool.or_eq_true, decide_eq_true_eq, Bool.and_eq_true, Bool.not_eq_true'] at hst
      rcases hst with h | ⟨h1, h2⟩
      · exact (goE_full h _).symm
      · have h3 : bl l.least tk = false := by
          rcases h2 with h2 | h2
          · rw [emp_bl h1] at h2; cases h2
          · exact h2
        have hge : ∀ m ∈ l :: L, bl m.least tk = false := fun m hm => by
          rcases List.mem_cons.1 hm with rfl | hm
          · exact h3
          · cases hb : bl m.least tk with
            | false => rfl
            | true => rw [bl_trans (o1 m hm) hb] at h3; cases h3
        have hall : ∀ m ∈ l :: L, ∀ e ∈ m.nd.ents, bl e.1 tk = false := fun m hm e he => by
          cases hb : bl e.1 tk with
          | false => rfl
          | true =>
            have h5 := hlow m hm e he
            have h6 := hge m hm
            rcases bl_total m.least e.1 with h | h | h
            · rw [bl_trans h hb] at h6; cases h6
            · rw [h, hb] at h6; cases h6
            · rw [h] at h5; cases h5
        refine (goE_past h1 fun e he => ?_).symm
        rw [← entsT_filter] at he
        obtain ⟨m, hm, hem⟩ := mem_entsT.1 (List.mem_filter.1 he).1
        exact hall m hm e hem
    | false =>
      simp only [Bool.false_eq_true, if_false]
      unfold stopS at hst
      simp only [decide_true, Bool.true_and, Bool.or_eq_false_iff, decide_eq_false_iff_not] at hst
      obtain ⟨hA, hto⟩ := hst
      have hokl := hok l (by simp)
      rw [ents_emp hokl fr, keys_filter, List.map_map]
      have hR := fun st => ih st (fun m hm => hok m (by simp [hm])) o2 (fun m hm => hlow m (by simp [hm]))
      have := run_keys hR (l := l) (l.nd.ents.filter fun e => !bl e.1 fr && decide (e.1 ≠ emp)) (stepS fr st (l, emp)) (fun e he => by
        obtain ⟨h1, h2⟩ := List.mem_filter.1 he
        simp only [Bool.and_eq_true, decide_eq_true_eq] at h2
        exact ⟨h2.2, getM_mem hokl h1⟩)
      refine this.trans ?_
      unfold stepS
      rw [if_pos rfl]
      dsimp only
      cases hc : (hasE l.nd.ents emp && decide (fr = emp)) with
      | true =>
        simp only [if_true]
        rw [List.append_assoc, List.singleton_append]
        conv => rhs; unfold goE
        rw [if_neg]
        simp only [Bool.or_eq_true, decide_eq_true_eq, Bool.and_eq_true, Bool.not_eq_true', not_or, not_and, Bool.not_eq_false]
        exact ⟨hA, fun h => emp_bl h⟩
      | false =>
        simp only [Bool.false_eq_true, if_false, List.nil_append]
theorem filter_none {A : List Ent} {k : ByteArray} (h : ∀ e ∈ A, bl e.1 k = true) : (A.filter fun e => !bl e.1 k) = [] := by
  apply List.filter_eq_nil_iff.2
  intro e he
  simp [h e he]
/-- A scan tells just what the entries say. -/
theorem scanT_A {T : Tr} (ht : TrOk T) : (scanT T fr tk most).A = scanE (entsT T) fr tk most := by
  obtain ⟨T1, l, T2, ha, hf⟩ := findT_at ht fr
  have hd : T.drop (findT T fr) = l :: T2 := by rw [hf, ha.eq, List.drop_left]
  unfold scanT scanE
  rw [hd]
  have hsub : ∀ m ∈ l :: T2, m ∈ T := fun m hm => by rw [ha.eq]; exact List.mem_append_right _ hm
  have ho := ht.ord
  rw [ha.eq] at ho
  rw [run_leaves (l :: T2) sc0 (fun m hm => ht.ok m (hsub m hm)) (List.pairwise_append.1 ho).2.1 (fun m hm => ht.low m (hsub m hm))]
  have : entsT T = entsT T1 ++ entsT (l :: T2) := by rw [ha.eq, entsT_app]
  rw [this, List.filter_append, filter_none (ha.before ht)]
  rfl

theorem run_S_mono : ∀ (E : List (Lf × ByteArray)) (st : ScS), ∀ s ∈ st.S, s ∈ (runS fr tk most E st).S := by
  intro E
  induction E with
  | nil => exact fun st s h => h
  | cons x E ih =>
    intro st s h
    unfold runS
    split
    · exact h
    · refine ih _ s ?_
      unfold stepS
      split
      · exact List.mem_append_left _ h
      · exact h
theorem run_S_of : ∀ (E : List (Lf × ByteArray)) (st : ScS), ∀ s ∈ (runS fr tk most E st).S, s ∈ st.S ∨ ∃ x ∈ E, s = seenL x.1 := by
  intro E
  induction E with
  | nil => exact fun st s h => .inl h
  | cons x E ih =>
    intro st s h
    unfold runS at h
    split at h
    · exact .inl h
    · rcases ih _ s h with h | ⟨y, hy, e⟩
      · unfold stepS at h
        split at h
        · rcases List.mem_append.1 h with h | h
          · exact .inl h
          · simp only [List.mem_singleton] at h
            exact .inr ⟨x, by simp, h⟩
        · exact .inl h
      · exact .inr ⟨y, by simp [hy], e⟩
theorem ev_mem {L : Tr} {x : Lf × ByteArray} (h : x ∈ evT fr L) : x.1 ∈ L := by
  obtain ⟨l, hl, h⟩ := List.mem_flatMap.1 h
  unfold evL at h
  rcases List.mem_cons.1 h with rfl | h
  · exact hl
  · obtain ⟨k, _, rfl⟩ := List.mem_map.1 h; exact hl
theorem scanT_seen (T : Tr) : ∀ s ∈ (scanT T fr tk most).S, ∃ l ∈ T, seenL l = s := fun s hs => by
  rcases run_S_of _ _ s hs with h | ⟨x, hx, e⟩
  · cases h
  · exact ⟨x.1, List.mem_of_mem_drop (ev_mem hx), e.symm⟩
theorem scanT_valid (T : Tr) : validM T (scanT T fr tk most).S = true := validM_mem.2 (scanT_seen T)

/-- A leaf's place is told by its number. -/
theorem num_split {P P' L L' : Tr} {l l' : Lf} (h : Nums (P' ++ l' :: L')) (e : P' ++ l' :: L' = P ++ l :: L) (hn : l'.num = l.num) : P' = P ∧ l' = l ∧ L' = L := by
  have hnd := h.nd
  rcases List.append_eq_append_iff.1 e with ⟨a, rfl, e2⟩ | ⟨c, rfl, e2⟩
  · cases a with
    | nil => simp only [List.nil_append, List.cons.injEq] at e2; exact ⟨by simp, e2.1, e2.2⟩
    | cons x a =>
      simp only [List.cons_append, List.cons.injEq] at e2
      obtain ⟨rfl, rfl⟩ := e2
      rw [List.map_append] at hnd
      have := (List.nodup_append.1 hnd).2.1
      rw [List.map_cons] at this
      exact absurd (List.mem_map.2 ⟨l, by simp, hn.symm⟩) (List.nodup_cons.1 this).1
  · cases c with
    | nil => simp only [List.nil_append, List.cons.injEq] at e2; exact ⟨by simp, e2.1.symm, e2.2.symm⟩
    | cons x c =>
      simp only [List.cons_append, List.cons.injEq] at e2
      obtain ⟨rfl, rfl⟩ := e2
      rw [List.append_assoc, List.map_append] at hnd
      have := (List.nodup_append.1 hnd).2.1
      rw [List.cons_append, List.map_cons] at this
      exact absurd (List.mem_map.2 ⟨l', by simp, hn⟩) (List.nodup_cons.1 this).1
theorem num_one {T : Tr} (h : Nums T) {l m : Lf} (hl : l ∈ T) (hm : m ∈ T) (hn : l.num = m.num) : l = m := by
  obtain ⟨P, L, rfl⟩ := List.append_of_mem hl
  obtain ⟨P', L', e⟩ := List.append_of_mem hm
  exact (num_split h e hn).2.1
/-- A leaf that was seen and is valid still: its keys, and what stands behind it, are as they were. -/
theorem valid_leaf {T T' P L P' L' : Tr} {l l' : Lf} (hr : Rel T T') (hn : Nums T') (e : T = P ++ l :: L) (e' : T' = P' ++ l' :: L') (hnum : l'.num = l.num) (hv : ∃ m ∈ T', seenL m = seenL l) :
    keysM l'.nd = keysM l.nd ∧ hd1 L' = hd1 L ∧ l'.least = l.least := by
  obtain ⟨A, m, B, em, hm⟩ := hr P l L e
  obtain ⟨m2, hm2, hs⟩ := hv
  have e3 : m2 = m := num_one hn hm2 (by rw [em]; simp) (by rw [hm.num]; exact congrArg (·.1) hs)
  subst e3
  subst e'
  obtain ⟨rfl, rfl, rfl⟩ := num_split hn em (hnum.trans hm.num.symm)
  have h1 : l'.nd.ins = l.nd.ins := congrArg (·.2.1) hs
  have h2 : l'.nd.spl = l.nd.spl := congrArg (·.2.2) hs
  exact ⟨hm.keys h1 h2, hm.next h2, hm.least⟩
theorem has_keys {N N' : Nd} (h : NdOk N) (h' : NdOk N') (hk : keysM N' = keysM N) (k : ByteArray) : hasE N'.ents k = hasE N.ents k := by
  have e : ∀ {M : Nd}, NdOk M → (hasE M.ents k = true ↔ k ∈ keysM M) := fun hM => by
    rw [has_iff hM.sorted]
    unfold keysM
    simp
  rw [Bool.eq_iff_iff, e h, e h', hk]
theorem run_two {L _L' : Tr} {l l' : Lf} (P : ScS → ScS → Prop) (hP : ∀ a b, P a b → a.A.map (·.1) = b.A.map (·.1)) (hstep : ∀ a b k, k ≠ emp → P a b → P (stepS fr a (l, k)) (stepS fr b (l', k))) (R R' : List (Lf × ByteArray))
    (hR : ∀ a b, P a b → (∀ s ∈ (runS fr tk most R a).S, ∃ m ∈ L, seenL m = s) → (runS fr tk most R' b).A.map (·.1) = (runS fr tk most R a).A.map (·.1)) : ∀ (ks : List ByteArray) (a b : ScS), (∀ k ∈ ks, k ≠ emp) → P a b →
    (∀ s ∈ (runS fr tk most ((ks.map fun k => (l, k)) ++ R) a).S, ∃ m ∈ L, seenL m = s) → (runS fr tk most ((ks.map fun k => (l', k)) ++ R') b).A.map (·.1) = (runS fr tk most ((ks.map fun k => (l, k)) ++ R) a).A.map (·.1) := by
  intro ks
  induction ks with
  | nil => intro a b _ hp hv; exact hR a b hp hv
  | cons k ks ih =>
    intro a b hk hp hv
    simp only [List.map_cons, List.cons_append, runS] at hv ⊢
    have hl : b.A.length = a.A.length := by have := congrArg List.length (hP a b hp); simpa using this.symm
    have hk0 := hk k (by simp)
    have hs : stopS tk most b (l', k) = stopS tk most a (l, k) := by unfold stopS; simp [hl, hk0]
    rw [hs]
    cases hst : stopS tk most a (l, k) with
    | true => simp only [if_true]; exact (hP a b hp).symm
    | false =>
      rw [hst] at hv
      simp only [Bool.false_eq_true, if_false] at hv ⊢
      exact ih _ _ (fun x hx => hk x (by simp [hx])) (hstep a b k hk0 hp) hv
theorem unseen_leaves {T T' : Tr} (ht : TrOk T) (ht' : TrOk T') (hr : Rel T T') (hn : Nums T') : ∀ (L L' P P' : Tr) (a b : ScS), T = P ++ L → T' = P' ++ L' → hd1 L' = hd1 L → a.A.map (·.1) = b.A.map (·.1) →
    (∀ s ∈ (runS fr tk most (evT fr L) a).S, ∃ m ∈ T', seenL m = s) → (runS fr tk most (evT fr L') b).A.map (·.1) = (runS fr tk most (evT fr L) a).A.map (·.1) := by
  intro L
  induction L with
  | nil =>
    intro L' P P' a b _ _ hh hA _
    cases L' with
    | nil => exact hA.symm
    | cons x L' => simp [hd1] at hh
  | cons l L ih =>
    intro L' P P' a b e e' hh hA hv
    cases L' with
    | nil => simp [hd1] at hh
    | cons l' L' =>
      simp only [hd1, List.head?_cons, Option.map_some, Option.some.injEq, Prod.mk.injEq] at hh
      obtain ⟨hnum, hleast⟩ := hh
      have hl : b.A.length = a.A.length := by have := congrArg List.length hA; simpa using this.symm
      rw [evT_cons] at hv ⊢
      rw [evT_cons]
      show (runS fr tk most ((l', emp) :: (_ ++ evT fr L')) b).A.map _ = (runS fr tk most ((l, emp) :: (_ ++ evT fr L)) a).A.map _
      change ∀ s ∈ (runS fr tk most ((l, emp) :: (_ ++ evT fr L)) a).S, _ at hv
      unfold runS at hv ⊢
      have hs : stopS tk most b (l', emp) = stopS tk most a (l, emp) := by unfold stopS; simp [hl, hleast]
      rw [hs]
      cases hst : stopS tk most a (l, emp) with
      | true => simp only [if_true]; exact hA.symm
      | false =>
        rw [hst] at hv
        simp only [Bool.false_eq_true, if_false] at hv ⊢
        have hin : seenL l ∈ (stepS fr a (l, emp)).S := by unfold stepS; rw [if_pos rfl]; simp
        obtain ⟨hk, hnx, _⟩ := valid_leaf hr hn e e' hnum (hv _ (run_S_mono _ _ _ hin))
        have hok := ht.ok l (by rw [e]; simp)
        have hok' := ht'.ok l' (by rw [e']; simp)
        rw [hk]
        refine run_two (L := T') (_L' := T') (l := l) (l' := l') (fun a b => a.A.map (·.1) = b.A.map (·.1)) (fun a b h => h) (fun a b k hk h => by unfold stepS; rw [if_neg hk, if_neg hk]; simpa using h) _ _ (fun a b h hv => ih L' (P ++ [l]) (P' ++ [l']) a b (by rw [e]; simp) (by rw [e']; simp) hnx h hv) _ _ _ (fun k hk => ?_) ?_ hv
        · have := (List.mem_filter.1 hk).2
          simp only [Bool.and_eq_true, decide_eq_true_eq] at this
          exact this.2
        · unfold stepS
          rw [if_pos rfl, if_pos rfl]
          dsimp only
          rw [has_keys hok hok' hk]
          split
          · simpa using hA
          · exact hA
theorem atLf_to {T T' T1 T2 : Tr} {l : Lf} {k : ByteArray} (ha : AtLf T k T1 l T2) (ht' : TrOk T') (hr : Rel T T') (hn : Nums T') (hv : ∃ m ∈ T', seenL m = seenL l) :
    ∃ T1' l' T2', AtLf T' k T1' l' T2' ∧ keysM l'.nd = keysM l.nd ∧ l'.num = l.num ∧ l'.least = l.least ∧ hd1 T2' = hd1 T2 := by
  obtain ⟨A, m, B, em, hm⟩ := hr T1 l T2 ha.eq
  obtain ⟨h1, h2, h3⟩ := valid_leaf hr hn ha.eq em hm.num hv
  refine ⟨A, m, B, ⟨em, by rw [h3]; exact ha.here, fun x hx => ?_⟩, h1, hm.num, h3, h2⟩
  cases B with
  | nil => cases hx
  | cons y B =>
    have hy : bl k y.least = true := by
      cases hT2 : T2 with
      | nil => rw [hT2] at h2; simp [hd1] at h2
      | cons z T2' =>
        rw [hT2] at h2
        simp only [hd1, List.head?_cons, Option.map_some, Option.some.injEq, Prod.mk.injEq] at h2
        rw [h2.2]
        exact ha.next z (by rw [hT2]; simp)
    rcases List.mem_cons.1 hx with rfl | hx
    · exact hy
    · have ho := ht'.ord
      rw [em] at ho
      exact bl_trans hy ((List.pairwise_cons.1 (List.pairwise_cons.1 (List.pairwise_append.1 ho).2.1).2).1 x hx)
/-- A search that is valid still: the key is there just if it was. -/
theorem miss_valid {T T' T1 T2 : Tr} {l : Lf} {k : ByteArray} (ht : TrOk T) (ha : AtLf T k T1 l T2) (ht' : TrOk T') (hr : Rel T T') (hn : Nums T') (hv : validM T' [seenL l] = true) : hasE (entsT T') k = hasE (entsT T) k := by
  obtain ⟨T1', l', T2', ha', hk, _, _⟩ := atLf_to ha ht' hr hn (validM_mem.1 hv _ (by simp))
  rw [ha.has ht, ha'.has ht', has_keys (ht.ok l ha.mem) (ht'.ok l' ha'.mem) hk]
theorem atLf_one {T A B A' B' : Tr} {l l' : Lf} {k : ByteArray} (_ht : TrOk T) (h : AtLf T k A l B) (h' : AtLf T k A' l' B') : l = l' ∧ B = B' := by
  have e : A ++ l :: B = A' ++ l' :: B' := h.eq.symm.trans h'.eq
  rcases List.append_eq_append_iff.1 e with ⟨a, rfl, e2⟩ | ⟨c, rfl, e2⟩
  · cases a with
    | nil => simp only [List.nil_append, List.cons.injEq] at e2; exact e2
    | cons x a =>
      simp only [List.cons_append, List.cons.injEq] at e2
      have := h.next l' (by rw [e2.2]; simp)
      rw [h'.here] at this; cases this
  · cases c with
    | nil => simp only [List.nil_append, List.cons.injEq] at e2; exact ⟨e2.1.symm, e2.2.symm⟩
    | cons x c =>
      simp only [List.cons_append, List.cons.injEq] at e2
      have := h'.next l (by rw [e2.2]; simp)
      rw [h.here] at this; cases this
/-- A scan that is valid still tells the same keys. -/
theorem scan_valid {T T' : Tr} (ht : TrOk T) (ht' : TrOk T') (hr : Rel T T') (hn : Nums T') (hv : validM T' (scanT T fr tk most).S = true) : (scanT T' fr tk most).A.map (·.1) = (scanT T fr tk most).A.map (·.1) := by
  obtain ⟨T1, l, T2, ha, hf⟩ := findT_at ht fr
  obtain ⟨U1, m, U2, hb, hg⟩ := findT_at ht' fr
  have hd : T.drop (findT T fr) = l :: T2 := by rw [hf, ha.eq, List.drop_left]
  have hd' : T'.drop (findT T' fr) = m :: U2 := by rw [hg, hb.eq, List.drop_left]
  have hv2 := validM_mem.1 hv
  by_cases hst : stopS tk most sc0 (l, emp) = true
  · unfold stopS at hst
    simp only [decide_true, Bool.true_and, Bool.or_eq_true, decide_eq_true_eq, Bool.and_eq_true, Bool.not_eq_true'] at hst
    rcases hst with h0 | ⟨h1, h2⟩
    · rw [scanT_A ht, scanT_A ht']
      unfold scanE
      rw [goE_full (A := []) h0, goE_full (A := []) h0]
    · have h3 : bl l.least tk = false := by
        rcases h2 with h2 | h2
        · rw [emp_bl h1] at h2; cases h2
        · exact h2
      have hft : bl fr tk = false := by
        cases hc : bl fr tk with
        | false => rfl
        | true =>
          have := ha.here
          rcases bl_total l.least fr with h | h | h
          · rw [bl_trans h hc] at h3; cases h3
          · rw [h, hc] at h3; cases h3
          · rw [h] at this; cases this
      have hall : ∀ (A : List Ent), ∀ e ∈ A.filter (fun e => !bl e.1 fr), bl e.1 tk = false := fun A e he => by
        have h5 := (List.mem_filter.1 he).2
        simp only [Bool.not_eq_true'] at h5
        cases hc : bl e.1 tk with
        | false => rfl
        | true =>
          rcases bl_total fr e.1 with h | h | h
          · rw [bl_trans h hc] at hft; cases hft
          · rw [h, hc] at hft; cases hft
          · rw [h] at h5; cases h5
      rw [scanT_A ht, scanT_A ht']
      unfold scanE
      rw [goE_past h1 (hall _), goE_past h1 (hall _)]
  · have hin : seenL l ∈ (scanT T fr tk most).S := by
      unfold scanT
      rw [hd, evT_cons]
      show seenL l ∈ (runS fr tk most ((l, emp) :: (_ ++ evT fr T2)) sc0).S
      unfold runS
      rw [if_neg hst]
      refine run_S_mono _ _ _ ?_
      unfold stepS
      rw [if_pos rfl]
      simp
    obtain ⟨A', l', B', h1, h2, h3, h4, h5⟩ := atLf_to ha ht' hr hn (hv2 _ hin)
    obtain ⟨rfl, rfl⟩ := atLf_one ht' h1 hb
    unfold scanT at hv2 ⊢
    rw [hd] at hv2
    rw [hd, hd']
    exact unseen_leaves ht ht' hr hn (l :: T2) (l' :: B') T1 A' sc0 sc0 ha.eq h1.eq (by simp [hd1, h3, h4]) rfl hv2
end

end Go.Proofs.Ythplnecnagbedaa
