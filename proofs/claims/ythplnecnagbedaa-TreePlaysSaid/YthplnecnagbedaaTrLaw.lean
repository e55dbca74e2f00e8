/- The tree's plain model: what Put, Take, Get do to all entries; conditions: none. -/
import Derived.Test.YthplnecnagbedaaTrPut
namespace Go.Proofs.Ythplnecnagbedaa

section
variable {T T1 T2 : Tr} {l : Lf} {k : ByteArray}
theorem AtLf.has (h : AtLf T k T1 l T2) (ht : TrOk T) : hasE (entsT T) k = hasE l.nd.ents k := by
  have hs := ht.sorted
  rw [h.ents] at hs ⊢
  exact has_mid hs (h.before ht) (h.behind ht)
theorem AtLf.get (h : AtLf T k T1 l T2) (ht : TrOk T) : getE (entsT T) k = getE l.nd.ents k := by
  have hs := ht.sorted
  rw [h.ents] at hs ⊢
  exact get_mid hs (h.before ht) (h.behind ht)
theorem AtLf.mem (h : AtLf T k T1 l T2) : l ∈ T := by rw [h.eq]; simp
theorem put_leaf (ht : TrOk T) (ha : AtLf T k T1 l T2) {N' : Nd} (hok : NdOk N') {v : Int} (he : N'.ents = putE l.nd.ents k v) :
    TrOk (T1 ++ ⟨l.num, l.least, N'⟩ :: T2) ∧ entsT (T1 ++ ⟨l.num, l.least, N'⟩ :: T2) = putE (entsT T) k v := by
  have hs := ht.sorted
  have hsl := (ht.ok l ha.mem).sorted
  have hhigh := ht.high
  rw [ha.eq] at hhigh
  have g4 := (List.pairwise_cons.1 (List.pairwise_append.1 hhigh).2.1).1
  constructor
  · refine ht.set ha.eq hok (fun e hm => ?_) (fun e hm m hmm => ?_)
    · rw [he] at hm
      rcases (mem_put hsl k v e.1 e.2).1 hm with ⟨q, _⟩ | ⟨_, q⟩
      · rw [q]; exact ha.here
      · exact ht.low l ha.mem _ q
    · rw [he] at hm
      rcases (mem_put hsl k v e.1 e.2).1 hm with ⟨q, _⟩ | ⟨_, q⟩
      · rw [q]; exact ha.next m hmm
      · exact g4 m hmm _ q
  · rw [entsT_app, entsT_cons]
    show entsT T1 ++ (N'.ents ++ entsT T2) = _
    rw [he, ← List.append_assoc]
    have h2 := hs
    rw [ha.ents] at h2 ⊢
    exact (put_mid h2 (ha.before ht) (ha.behind ht) v).symm
theorem take_leaf (ht : TrOk T) (ha : AtLf T k T1 l T2) :
    TrOk (T1 ++ ⟨l.num, l.least, (takeM l.nd k).1⟩ :: T2) ∧ entsT (T1 ++ ⟨l.num, l.least, (takeM l.nd k).1⟩ :: T2) = takeE (entsT T) k := by
  have hok := ht.ok l ha.mem
  have hs := ht.sorted
  have hsl := hok.sorted
  have he := takeM_ents hok k
  have hhigh := ht.high
  rw [ha.eq] at hhigh
  have g4 := (List.pairwise_cons.1 (List.pairwise_append.1 hhigh).2.1).1
  constructor
  · refine ht.set ha.eq (takeM_ok hok k) (fun e hm => ?_) (fun e hm m hmm => ?_)
    · rw [he] at hm
      exact ht.low l ha.mem _ ((mem_take hsl k e.1 e.2).1 hm).2
    · rw [he] at hm
      exact g4 m hmm _ ((mem_take hsl k e.1 e.2).1 hm).2
  · rw [entsT_app, entsT_cons]
    show entsT T1 ++ ((takeM l.nd k).1.ents ++ entsT T2) = _
    rw [he, ← List.append_assoc]
    have h2 := hs
    rw [ha.ents] at h2 ⊢
    exact (take_mid h2 (ha.before ht) (ha.behind ht)).symm
/-- Behind a split the key lies in the left half .. -/
theorem AtLf.left (ha : AtLf T k T1 l T2) {n : Nat} {m : ByteArray} {L R : Nd} (hlt : bl k m = true) : AtLf (T1 ++ ⟨l.num, l.least, L⟩ :: ⟨n, m, R⟩ :: T2) k T1 ⟨l.num, l.least, L⟩ (⟨n, m, R⟩ :: T2) :=
  ⟨rfl, ha.here, fun x hx => by
    rcases List.mem_cons.1 hx with rfl | hx
    · exact hlt
    · exact ha.next x hx⟩
/-- .. or in the right one. -/
theorem AtLf.right (ha : AtLf T k T1 l T2) {n : Nat} {m : ByteArray} {L R : Nd} (hge : bl k m = false) : AtLf (T1 ++ ⟨l.num, l.least, L⟩ :: ⟨n, m, R⟩ :: T2) k (T1 ++ [⟨l.num, l.least, L⟩]) ⟨n, m, R⟩ T2 :=
  ⟨by simp, hge, ha.next⟩
theorem half_u {N : Nd} (h : NdOk N) (hu : N.u = 15) : (splitL N).u = 8 ∧ (splitR N).u = 7 := by
  have h1 := congrArg List.length (splitL_ents h)
  have h2 := congrArg List.length (splitR_ents h)
  have hl := ents_len N
  rw [ents_len] at h1 h2
  simp only [List.length_take, List.length_drop] at h1 h2
  omega
theorem half_has {N : Nd} (h : NdOk N) {k : ByteArray} (hh : hasE N.ents k = false) : hasE (splitL N).ents k = false ∧ hasE (splitR N).ents k = false := by
  have hn : ∀ v, (k, v) ∉ N.ents := fun v hv => by
    have := (has_iff h.sorted).2 ⟨v, hv⟩
    rw [hh] at this; cases this
  constructor
  · cases hc : hasE (splitL N).ents k with
    | false => rfl
    | true =>
      obtain ⟨v, hv⟩ := (has_iff (splitL_ok h).sorted).1 hc
      rw [splitL_ents h] at hv
      exact absurd (List.mem_of_mem_take hv) (hn v)
  · cases hc : hasE (splitR N).ents k with
    | false => rfl
    | true =>
      obtain ⟨v, hv⟩ := (has_iff (splitR_ok N).sorted).1 hc
      rw [splitR_ents h] at hv
      exact absurd (List.mem_of_mem_drop hv) (hn v)
end

/-- What the document's tree answers to Put: entries, answer. -/
def putSpec (A : List Ent) (k : ByteArray) (v : Int) : List Ent × Int × Bool × Int :=
  if 4096 < k.size then (A, 0, false, 2) else match getE A k with
    | some u => (putE A k v, u, true, 0)
    | none => if 4096 ≤ A.length then (A, 0, false, 2) else (putE A k v, 0, false, 0)
def takeSpec (A : List Ent) (k : ByteArray) : List Ent × Int × Int := match getE A k with
  | some u => (takeE A k, u, 0)
  | none => (A, 0, 5)
def getSpec (A : List Ent) (k : ByteArray) : Int × Bool := match getE A k with
  | some u => (u, true)
  | none => (0, false)
theorem AtLf.getM {T T1 T2 : Tr} {l : Lf} {k : ByteArray} (h : AtLf T k T1 l T2) (ht : TrOk T) : getM l.nd k = getSpec (entsT T) k := by
  unfold Go.Proofs.Ythplnecnagbedaa.getM getSpec
  rw [h.get ht]
  cases getE l.nd.ents k <;> rfl

end Go.Proofs.Ythplnecnagbedaa
