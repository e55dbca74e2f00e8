/- The law TreeUnseen holds: for every input it returns true, and its arguments read as they did; conditions: none. -/
import Derived.Test.YthplnecnagbedaaRows
import Derived.Test.YthplnecnagbedaaLawKit
import Derived.Test.YthplnecnagbedaaTreeUnseen
import Derived.Test.YthplnecnagbedaaNdStr
namespace Go.Proofs.Ythplnecnagbedaa
open Go.ChangeShapes Go.WideShapes Go.ChangeAt Go.RowKit Go.Joins

theorem treeUnseen_own : ownKnob Try.prog.godebug = none := by kernel_rfl
theorem treeUnseen_laidOut : laidOutB Try.prog = true := by kernel_rfl

set_option maxRecDepth 100000 in
theorem treeUnseen_lifted (os : Os) (started : os.Started) (H : Type) (enc : TypeId × Value → H) :
    ReturnsInHanded {} Try.checked os 10 .any (Rows.treeUnseenSpec.pre6 enc Try.prog Try.f10 Rows.treeUnseenRow.domain false) (Rows.treeUnseenSpec.post enc Try.prog Try.f10 false true false false) := by
  refine returnsInHanded_of_change (C := Try.checked) treeUnseen_own started (by kernel_rfl) Try.func10
    (ChangeSpec.witness6 (enc := enc) (C := Try.checked) false ⟨#[], #[.slice none 0 0, .agg #[.int .i64 0, .string ByteArray.empty, .string ByteArray.empty, .int .i64 0], .slice none 0 0], []⟩ 8 (by kernel_rfl) (by kernel_rfl) (by kernel_rfl) (by kernel_rfl)) ?_
  intro W base args ds gs before hval0 hW hcnd _
  have hval : ∀ (j : Nat) t v, Try.f10.params[j]? = some t → args[j]? = some v → Value.okWide Try.prog W .any base t v := hval0
  have hW' := hW
  obtain ⟨p, q, hA0, hV, rfl, hfz, hnd⟩ := hW
  have hA : DataW.TrodAll enc Try.prog W 0 (fun _ => true) true Try.f10.params.toList args.toList ds p := hA0
  rw [Try.params10] at hA hval
  obtain ⟨v0, v1, v2, d0, d1, d2, p0, p1, p2, rfl, rfl, rfl, h0, h1, h2⟩ := trodAll_three hA
  obtain ⟨rfl, rfl⟩ := trodVars_none hV
  have k0 := h0
  have lt0 : ∀ x ∈ p0, x.block < W.heap.size := by obtain ⟨m, hm⟩ := k0; exact DataW.trod_lt m _ _ _ hm
  have k1 := h1
  have lt1 : ∀ x ∈ p1, x.block < W.heap.size := by obtain ⟨m, hm⟩ := k1; exact DataW.trod_lt m _ _ _ hm
  have k2 := h2
  have lt2 : ∀ x ∈ p2, x.block < W.heap.size := by obtain ⟨m, hm⟩ := k2; exact DataW.trod_lt m _ _ _ hm
  obtain ⟨ao0, len0, cap0, rfl⟩ := okWide_slice Try.underlying67 (hval 0 67 v0 rfl rfl)
  obtain ⟨hl0, A0, hAl0, hrd0⟩ := open_tacts Try.underlying67 Try.underlying69 (by kernel_rfl) (by kernel_rfl) (by kernel_rfl) (by kernel_rfl) (by kernel_rfl) (by kernel_rfl) h0
  obtain ⟨c10, c11, c12, c13, y10, y11, y12, y13, m1, rfl, _, _, t10, t11, t12, t13⟩ := open_agg4 Try.underlying69 (by kernel_rfl) (by kernel_rfl) (hval 1 69 v1 rfl rfl) h1
  obtain ⟨n10, e10, _, _⟩ := DataW.trod_int Try.underlying3 t10
  obtain ⟨n11, e11, rfl, _⟩ := DataW.trod_string Try.underlying9 t11
  obtain ⟨n12, e12, rfl, _⟩ := DataW.trod_string Try.underlying9 t12
  obtain ⟨n13, e13, _, _⟩ := DataW.trod_int Try.underlying3 t13
  simp only [List.cons.injEq, and_true] at e10 e11 e12 e13
  subst e10 e11 e12 e13
  obtain ⟨ao2, len2, cap2, rfl⟩ := okWide_slice Try.underlying67 (hval 2 67 v2 rfl rfl)
  obtain ⟨hl2, A2, hAl2, hrd2⟩ := open_tacts Try.underlying67 Try.underlying69 (by kernel_rfl) (by kernel_rfl) (by kernel_rfl) (by kernel_rfl) (by kernel_rfl) (by kernel_rfl) h2
  clear hA0 hval0
  refine (treeUnseen_any W ao0 len0 cap0 A0 hAl0 (by unfold maxLen at hl0; omega) hrd0 n10 n11 n12 n13 ao2 len2 cap2 A2 hAl2 (by unfold maxLen at hl2; omega) hrd2).mono fun e W' ⟨he, bel⟩ => ?_
  subst he
  exact ⟨_, rfl, _, _, _, [], _, [], hW', trodAll_mk1 (shut_bool Try.underlying4 _), trodAll_mk3 (Below.trod treeUnseen_laidOut (by kernel_rfl) (of_decide_eq_true (by kernel_rfl)) k0 bel lt0) (Below.trod treeUnseen_laidOut (by kernel_rfl) (of_decide_eq_true (by kernel_rfl)) k1 bel lt1) (Below.trod treeUnseen_laidOut (by kernel_rfl) (of_decide_eq_true (by kernel_rfl)) k2 bel lt2), rfl, bel.frame _, fun h => by cases h⟩

theorem treeUnseen_holds : Rows.TreeUnseenSaid :=
  OpenClaim.holds_of_wide 10 Try.f10 rfl rfl rfl rfl rfl rfl rfl ⟨rfl, rfl, rfl, rfl, rfl⟩ rfl rfl rfl rfl rfl (by kernel_rfl) Try.func10 (by kernel_rfl)
    (of_decide_eq_true (by kernel_rfl)) (by unfold Func.isWrapper; rw [if_neg (of_decide_eq_false (by kernel_rfl))]; exact ⟨rfl, rfl⟩)
    (fun os started H enc _ => treeUnseen_lifted os started H enc)

#print axioms treeUnseen_holds
end Go.Proofs.Ythplnecnagbedaa
