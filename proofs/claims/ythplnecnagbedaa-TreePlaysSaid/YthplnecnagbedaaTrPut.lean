/- The tree's plain model: a leaf set anew, a leaf split; Put, Take, Get as laws on all entries; conditions: none. -/
import Derived.Test.YthplnecnagbedaaTrPure
namespace Go.Proofs.Ythplnecnagbedaa

section
variable {T T1 T2 : Tr} {l : Lf}
theorem TrOk.set (ht : TrOk T) (h : T = T1 ++ l :: T2) {N' : Nd} (hok : NdOk N') (hlow : ∀ e ∈ N'.ents, bl e.1 l.least = false) (hhigh : ∀ e ∈ N'.ents, ∀ m ∈ T2, bl e.1 m.least = true) : TrOk (T1 ++ ⟨l.num, l.least, N'⟩ :: T2) := by
  subst h
  obtain ⟨o1, o2, o3⟩ := List.pairwise_append.1 ht.ord
  obtain ⟨o4, o5⟩ := List.pairwise_cons.1 o2
  obtain ⟨g1, g2, g3⟩ := List.pairwise_append.1 ht.high
  obtain ⟨g4, g5⟩ := List.pairwise_cons.1 g2
  refine ⟨?_, fun m hm => ?_, ?_, fun m hm => ?_, ?_⟩
  · obtain ⟨l0, T', e, he⟩ := ht.first
    cases T1 with
    | nil => simp only [List.nil_append, List.cons.injEq] at e; exact ⟨_, T2, rfl, by rw [← e.1] at he; exact he⟩
    | cons a T1 => simp only [List.cons_append, List.cons.injEq] at e; exact ⟨a, _, rfl, by rw [e.1]; exact he⟩
  · rcases List.mem_append.1 hm with hm | hm
    · exact ht.ok m (by simp [hm])
    · rcases List.mem_cons.1 hm with rfl | hm
      · exact hok
      · exact ht.ok m (by simp [hm])
  · refine List.pairwise_append.2 ⟨o1, List.pairwise_cons.2 ⟨o4, o5⟩, fun a ha b hb => ?_⟩
    rcases List.mem_cons.1 hb with rfl | hb
    · exact o3 a ha l (by simp)
    · exact o3 a ha b (by simp [hb])
  · rcases List.mem_append.1 hm with hm | hm
    · exact ht.low m (by simp [hm])
    · rcases List.mem_cons.1 hm with rfl | hm
      · exact hlow
      · exact ht.low m (by simp [hm])
  · refine List.pairwise_append.2 ⟨g1, List.pairwise_cons.2 ⟨fun m hm e he => hhigh e he m hm, g5⟩, fun a ha b hb => ?_⟩
    rcases List.mem_cons.1 hb with rfl | hb
    · exact g3 a ha l (by simp)
    · exact g3 a ha b (by simp [hb])

theorem upper0 {N : Nd} (hu : 2 ≤ N.u) : ∃ A x B, N.ents = A ++ x :: B ∧ A ≠ [] ∧ A = N.ents.take ((N.u + 1) / 2) ∧ x :: B = N.ents.drop ((N.u + 1) / 2) ∧ (upperM N).getD 0 emp = x.1 := by
  have hl := ents_len N
  have hp : (N.u + 1) / 2 < N.ents.length := by omega
  refine ⟨N.ents.take ((N.u + 1) / 2), N.ents[(N.u + 1) / 2], N.ents.drop ((N.u + 1) / 2 + 1), ?_, ?_, rfl, ?_, ?_⟩
  · rw [← List.drop_eq_getElem_cons hp, List.take_append_drop]
  · intro h
    have := congrArg List.length h
    rw [List.length_take] at this
    simp only [List.length_nil] at this
    omega
  · rw [← List.drop_eq_getElem_cons hp]
  · rw [upper_eq, List.drop_eq_getElem_cons hp]; rfl

theorem TrOk.split (ht : TrOk T) (h : T = T1 ++ l :: T2) (hu : 2 ≤ l.nd.u) (n : Nat) :
    TrOk (T1 ++ ⟨l.num, l.least, splitL l.nd⟩ :: ⟨n, (upperM l.nd).getD 0 emp, splitR l.nd⟩ :: T2) ∧ entsT (T1 ++ ⟨l.num, l.least, splitL l.nd⟩ :: ⟨n, (upperM l.nd).getD 0 emp, splitR l.nd⟩ :: T2) = entsT T := by
  subst h
  have hok := ht.ok l (by simp)
  obtain ⟨A, x, B, e, hA, eA, eB, ex⟩ := upper0 hu
  have hL := splitL_ents hok
  have hR := splitR_ents hok
  rw [← eA] at hL
  rw [← eB] at hR
  rw [ex]
  have hs := hok.sorted
  rw [e] at hs
  obtain ⟨s1, s2, s3⟩ := List.pairwise_append.1 hs
  obtain ⟨s4, s5⟩ := List.pairwise_cons.1 s2
  obtain ⟨o1, o2, o3⟩ := List.pairwise_append.1 ht.ord
  obtain ⟨o4, o5⟩ := List.pairwise_cons.1 o2
  obtain ⟨g1, g2, g3⟩ := List.pairwise_append.1 ht.high
  obtain ⟨g4, g5⟩ := List.pairwise_cons.1 g2
  have hlow := ht.low l (by simp)
  rw [e] at hlow
  have hlx : bl l.least x.1 = true := by
    obtain ⟨a, A', rfl⟩ := List.exists_cons_of_ne_nil hA
    exact bl_le_lt (hlow a (by simp)) (s3 a (by simp) x (by simp))
  have hhx : ∀ m ∈ T2, ∀ y ∈ A ++ x :: B, bl y.1 m.least = true := fun m hm y hy => g4 m hm y (by rw [e]; exact hy)
  constructor
  · refine ⟨?_, fun m hm => ?_, ?_, fun m hm => ?_, ?_⟩
    · obtain ⟨l0, T', e0, he⟩ := ht.first
      cases T1 with
      | nil => simp only [List.nil_append, List.cons.injEq] at e0; exact ⟨_, _, rfl, by rw [← e0.1] at he; exact he⟩
      | cons a T1 => simp only [List.cons_append, List.cons.injEq] at e0; exact ⟨a, _, rfl, by rw [e0.1]; exact he⟩
    · rcases List.mem_append.1 hm with hm | hm
      · exact ht.ok m (by simp [hm])
      · rcases List.mem_cons.1 hm with rfl | hm
        · exact splitL_ok hok
        · rcases List.mem_cons.1 hm with rfl | hm
          · exact splitR_ok _
          · exact ht.ok m (by simp [hm])
    · refine List.pairwise_append.2 ⟨o1, List.pairwise_cons.2 ⟨fun m hm => ?_, List.pairwise_cons.2 ⟨fun m hm => hhx m hm x (by simp), o5⟩⟩, fun a ha b hb => ?_⟩
      · rcases List.mem_cons.1 hm with rfl | hm
        · exact hlx
        · exact o4 m hm
      · rcases List.mem_cons.1 hb with rfl | hb
        · exact o3 a ha l (by simp)
        · rcases List.mem_cons.1 hb with rfl | hb
          · exact bl_trans (o3 a ha l (by simp)) hlx
          · exact o3 a ha b (by simp [hb])
    · rcases List.mem_append.1 hm with hm | hm
      · exact ht.low m (by simp [hm])
      · rcases List.mem_cons.1 hm with rfl | hm
        · intro y hy
          rw [hL] at hy
          exact hlow y (by simp [hy])
        · rcases List.mem_cons.1 hm with rfl | hm
          · intro y hy
            rw [hR] at hy
            rcases List.mem_cons.1 hy with rfl | hy
            · exact bl_irrefl _
            · exact bl_asymm (s4 y hy)
          · exact ht.low m (by simp [hm])
    · refine List.pairwise_append.2 ⟨g1, List.pairwise_cons.2 ⟨fun m hm y hy => ?_, List.pairwise_cons.2 ⟨fun m hm y hy => ?_, g5⟩⟩, fun a ha b hb y hy => ?_⟩
      · rw [hL] at hy
        rcases List.mem_cons.1 hm with rfl | hm
        · exact s3 y hy x (by simp)
        · exact hhx m hm y (by simp [hy])
      · rw [hR] at hy
        exact hhx m hm y (by simp only [List.mem_append]; exact .inr hy)
      · rcases List.mem_cons.1 hb with rfl | hb
        · exact g3 a ha l (by simp) y hy
        · rcases List.mem_cons.1 hb with rfl | hb
          · exact bl_trans (g3 a ha l (by simp) y hy) hlx
          · exact g3 a ha b (by simp [hb]) y hy
  · rw [entsT_app, entsT_cons, entsT_cons, entsT_app, entsT_cons]
    simp only [hL, hR, e, List.append_assoc]
end

end Go.Proofs.Ythplnecnagbedaa
