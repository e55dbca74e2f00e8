/- The law TreeParts holds: for every input it returns true, and its arguments read as they did; conditions: none. -/
import Derived.Test.YthplnecnagbedaaRows
import Derived.Test.YthplnecnagbedaaLawKit
import Derived.Test.YthplnecnagbedaaTreeParts
import Derived.Test.YthplnecnagbedaaNdStr
namespace Go.Proofs.Ythplnecnagbedaa
open Go.ChangeShapes Go.WideShapes Go.ChangeAt Go.RowKit Go.Joins

theorem treeParts_own : ownKnob Try.prog.godebug = none := by kernel_rfl
theorem treeParts_laidOut : laidOutB Try.prog = true := by kernel_rfl

set_option maxRecDepth 100000 in
theorem treeParts_lifted (os : Os) (started : os.Started) (H : Type) (enc : TypeId × Value → H) :
    ReturnsInHanded {} Try.checked os 12 .any (Rows.treePartsSpec.pre6 enc Try.prog Try.f12 Rows.treePartsRow.domain false) (Rows.treePartsSpec.post enc Try.prog Try.f12 false true false false) := by
  refine returnsInHanded_of_change (C := Try.checked) treeParts_own started (by kernel_rfl) Try.func12
    (ChangeSpec.witness6 (enc := enc) (C := Try.checked) false ⟨#[], #[.slice none 0 0, .agg #[.string ByteArray.empty, .string ByteArray.empty, .string ByteArray.empty]], []⟩ 8 (by kernel_rfl) (by kernel_rfl) (by kernel_rfl) (by kernel_rfl)) ?_
  intro W base args ds gs before hval0 hW hcnd _
  have hval : ∀ (j : Nat) t v, Try.f12.params[j]? = some t → args[j]? = some v → Value.okWide Try.prog W .any base t v := hval0
  have hW' := hW
  obtain ⟨p, q, hA0, hV, rfl, hfz, hnd⟩ := hW
  have hA : DataW.TrodAll enc Try.prog W 0 (fun _ => true) true Try.f12.params.toList args.toList ds p := hA0
  rw [Try.params12] at hA hval
  obtain ⟨v0, v1, d0, d1, p0, p1, rfl, rfl, rfl, h0, h1⟩ := trodAll_two hA
  obtain ⟨rfl, rfl⟩ := trodVars_none hV
  have k0 := h0
  have lt0 : ∀ x ∈ p0, x.block < W.heap.size := by obtain ⟨m, hm⟩ := k0; exact DataW.trod_lt m _ _ _ hm
  have k1 := h1
  have lt1 : ∀ x ∈ p1, x.block < W.heap.size := by obtain ⟨m, hm⟩ := k1; exact DataW.trod_lt m _ _ _ hm
  obtain ⟨ao0, len0, cap0, rfl⟩ := okWide_slice Try.underlying67 (hval 0 67 v0 rfl rfl)
  obtain ⟨hl0, A0, hAl0, hrd0⟩ := open_tacts Try.underlying67 Try.underlying69 (by kernel_rfl) (by kernel_rfl) (by kernel_rfl) (by kernel_rfl) (by kernel_rfl) (by kernel_rfl) h0
  obtain ⟨c10, c11, c12, y10, y11, y12, m1, rfl, _, _, t10, t11, t12⟩ := open_agg3 Try.underlying75 (by kernel_rfl) (by kernel_rfl) (hval 1 75 v1 rfl rfl) h1
  obtain ⟨n10, e10, rfl, _⟩ := DataW.trod_string Try.underlying9 t10
  obtain ⟨n11, e11, rfl, _⟩ := DataW.trod_string Try.underlying9 t11
  obtain ⟨n12, e12, rfl, _⟩ := DataW.trod_string Try.underlying9 t12
  simp only [List.cons.injEq, and_true] at e10 e11 e12
  subst e10 e11 e12
  clear hA0 hval0
  refine (treeParts_any W ao0 len0 cap0 A0 hAl0 (by unfold maxLen at hl0; omega) hrd0 n10 n11 n12).mono fun e W' ⟨he, bel⟩ => ?_
  subst he
  exact ⟨_, rfl, _, _, _, [], _, [], hW', trodAll_mk1 (shut_bool Try.underlying4 _), trodAll_mk2 (Below.trod treeParts_laidOut (by kernel_rfl) (of_decide_eq_true (by kernel_rfl)) k0 bel lt0) (Below.trod treeParts_laidOut (by kernel_rfl) (of_decide_eq_true (by kernel_rfl)) k1 bel lt1), rfl, bel.frame _, fun h => by cases h⟩

theorem treeParts_holds : Rows.TreePartsSaid :=
  OpenClaim.holds_of_wide 12 Try.f12 rfl rfl rfl rfl rfl rfl rfl ⟨rfl, rfl, rfl, rfl, rfl⟩ rfl rfl rfl rfl rfl (by kernel_rfl) Try.func12 (by kernel_rfl)
    (of_decide_eq_true (by kernel_rfl)) (by unfold Func.isWrapper; rw [if_neg (of_decide_eq_false (by kernel_rfl))]; exact ⟨rfl, rfl⟩)
    (fun os started H enc _ => treeParts_lifted os started H enc)

#print axioms treeParts_holds
end Go.Proofs.Ythplnecnagbedaa
