/- The law WordsRuns holds: for every input it returns true, and its arguments read as they did; conditions: none. -/
import Derived.Test.YtlcgighhiacnpaaRows
import Derived.Test.YtlcgighhiacnpaaLawKit
import Derived.Test.YtlcgighhiacnpaaWordsRuns
import Derived.Test.YtlcgighhiacnpaaWdKitZ
namespace Go.Proofs.Ytlcgighhiacnpaa
open Go.ChangeShapes Go.WideShapes Go.ChangeAt Go.RowKit Go.Joins

theorem wordsRuns_own : ownKnob Try.prog.godebug = none := by kernel_rfl
theorem wordsRuns_laidOut : laidOutB Try.prog = true := by kernel_rfl

set_option maxRecDepth 100000 in
theorem wordsRuns_lifted (os : Os) (started : os.Started) (H : Type) (enc : TypeId × Value → H) :
    ReturnsInHanded {} Try.checked os 3 .any (Rows.wordsRunsSpec.pre6 enc Try.prog Try.f3 Rows.wordsRunsRow.domain false) (Rows.wordsRunsSpec.post enc Try.prog Try.f3 false true false false) := by
  refine returnsInHanded_of_change_sized (C := Try.checked) wordsRuns_own started (by kernel_rfl) Try.func3
    (ChangeSpec.witness6 (enc := enc) (C := Try.checked) false ⟨#[], #[.slice none 0 0, .slice none 0 0, .slice none 0 0], []⟩ 8 (by kernel_rfl) (by kernel_rfl) (by kernel_rfl) (by kernel_rfl)) ?_
  intro W base args ds gs before hval0 hW hcnd hsz _
  have hval : ∀ (j : Nat) t v, Try.f3.params[j]? = some t → args[j]? = some v → Value.okWide Try.prog W .any base t v := hval0
  have hW' := hW
  obtain ⟨p, q, hA0, hV, rfl, hfz, hnd⟩ := hW
  have hA : DataW.TrodAll enc Try.prog W 0 (fun _ => true) true Try.f3.params.toList args.toList ds p := hA0
  rw [Try.params3] at hA hval
  obtain ⟨v0, v1, v2, d0, d1, d2, p0, p1, p2, rfl, rfl, rfl, h0, h1, h2⟩ := trodAll_three hA
  obtain ⟨rfl, rfl⟩ := trodVars_none hV
  have k0 := h0
  have lt0 : ∀ x ∈ p0, x.block < W.heap.size := by obtain ⟨m, hm⟩ := k0; exact DataW.trod_lt m _ _ _ hm
  have k1 := h1
  have lt1 : ∀ x ∈ p1, x.block < W.heap.size := by obtain ⟨m, hm⟩ := k1; exact DataW.trod_lt m _ _ _ hm
  have k2 := h2
  have lt2 : ∀ x ∈ p2, x.block < W.heap.size := by obtain ⟨m, hm⟩ := k2; exact DataW.trod_lt m _ _ _ hm
  obtain ⟨ao0, len0, cap0, rfl⟩ := okWide_slice Try.underlying22 (hval 0 22 v0 rfl rfl)
  obtain ⟨ao1, len1, cap1, rfl⟩ := okWide_slice Try.underlying23 (hval 1 23 v1 rfl rfl)
  obtain ⟨ao2, len2, cap2, rfl⟩ := okWide_slice Try.underlying24 (hval 2 24 v2 rfl rfl)
  have hz : (∀ n ∈ d0.weights Try.prog 22, n ≤ reachBytes) ∧ (∀ n ∈ d1.weights Try.prog 23, n ≤ reachBytes) ∧ (∀ n ∈ d2.weights Try.prog 24, n ≤ reachBytes) := by
    have h1 : (DataW.weightsEach Try.prog (Try.f3.params.toList ++ Rows.wordsRunsSpec.plain.varTypes Try.prog) ([d0, d1, d2] ++ [])).all (· ≤ reachBytes) = true := hsz
    rw [Try.params3] at h1
    simp only [List.all_eq_true, decide_eq_true_eq] at h1
    refine ⟨fun n hn => h1 n ?_, fun n hn => h1 n ?_, fun n hn => h1 n ?_⟩ <;> simp [DataW.weightsEach, hn]
  obtain ⟨z0, z1, z2⟩ := hz
  have s0 : len0 * 24 ≤ reachBytes := by have := slice_weight Try.underlying22 h0 z0; rwa [show Try.prog.bytesOf 43 = 24 from by kernel_rfl] at this
  have s1 : len1 * 8 ≤ reachBytes := by have := slice_weight Try.underlying23 h1 z1; rwa [show Try.prog.bytesOf 38 = 8 from by kernel_rfl] at this
  have s2 : len2 * 8 ≤ reachBytes := by have := slice_weight Try.underlying24 h2 z2; rwa [show Try.prog.bytesOf 3 = 8 from by kernel_rfl] at this
  have hre : reachBytes = 140737488351232 := rfl
  obtain ⟨A0, hAl0, hrd0, hzi0⟩ := open_tasksZ Try.underlying22 Try.underlying43 (by kernel_rfl) Try.underlying50 (by kernel_rfl) (by kernel_rfl) (by kernel_rfl) (by kernel_rfl) (by kernel_rfl) (by kernel_rfl) h0 z0
  rw [show Try.prog.bytesOf 50 = 32 from by kernel_rfl] at hzi0
  rw [hre] at s0 s1 s2 hzi0
  obtain ⟨_, A1, hAl1, hrd1⟩ := open_words Try.underlying23 (by kernel_rfl) (by kernel_rfl) h1
  obtain ⟨_, A2, hAl2, hrd2⟩ := open_picks Try.underlying24 (by kernel_rfl) (by kernel_rfl) h2
  clear hA0 hval0
  refine (wordsRuns_any W ao0 len0 cap0 A0 hAl0 hrd0 s0 hzi0 ao1 len1 cap1 A1 hAl1 hrd1 s1 ao2 len2 cap2 A2 hAl2 hrd2 s2).mono fun e W' ⟨he, bel⟩ => ?_
  subst he
  exact ⟨_, rfl, _, _, _, [], _, [], hW', trodAll_mk1 (shut_bool Try.underlying4 _), trodAll_mk3 (Below.trod wordsRuns_laidOut (by kernel_rfl) (of_decide_eq_true (by kernel_rfl)) k0 bel lt0) (Below.trod wordsRuns_laidOut (by kernel_rfl) (of_decide_eq_true (by kernel_rfl)) k1 bel lt1) (Below.trod wordsRuns_laidOut (by kernel_rfl) (of_decide_eq_true (by kernel_rfl)) k2 bel lt2), rfl, bel.frame _, fun h => by cases h⟩

theorem wordsRuns_holds : Rows.WordsRunsSaid :=
  OpenClaim.holds_of_wide 3 Try.f3 rfl rfl rfl rfl rfl rfl rfl ⟨rfl, rfl, rfl, rfl, rfl⟩ rfl rfl rfl rfl rfl (by kernel_rfl) Try.func3 (by kernel_rfl)
    (of_decide_eq_true (by kernel_rfl)) (by unfold Func.isWrapper; rw [if_neg (of_decide_eq_false (by kernel_rfl))]; exact ⟨rfl, rfl⟩)
    (fun os started H enc _ => wordsRuns_lifted os started H enc)

#print axioms wordsRuns_holds
end Go.Proofs.Ytlcgighhiacnpaa
