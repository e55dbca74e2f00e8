/- move of package node, by its contract; conditions: both places are below fifteen. -/
import Derived.Test.YthplnecnagbedaaNtParts
import Derived.BigRegion
import Derived.BigQuiet
import Derived.Deep.RegionLaw
namespace Go.Proofs.Ythplnecnagbedaa
open Go.RowKit

def pvl (L : List Nat) : List Value := L.map fun x : Nat => Value.int .i64 x
theorem pvl_len (L : List Nat) : (pvl L).length = L.length := by simp [pvl]
theorem pvl_one (L : List Nat) : ∀ v ∈ pvl L, v.oneCell' = true := fun v hv => by
  simp only [pvl, List.mem_map] at hv
  obtain ⟨x, _, rfl⟩ := hv
  rfl
theorem splice_pvl (L C : List Nat) (k : Nat) : splice (pvl L) k (pvl C) = pvl (splice L k C) := by
  simp [splice, pvl, List.map_take, List.map_drop]

theorem getD_of {l : List Nat} {f : Nat} (h : f < l.length) : l.getD f 0 = l[f] := by simp [List.getD, h]

theorem mv_lt (l : List Nat) (u f t : Nat) (h1 : f < t) (h2 : t < l.length) : (splice (u :: l) (1 + f) ((l.drop (f + 1)).take (t - f))).set (1 + t) (l.getD f 0) = u :: mvL l f t := by
  have e1 : (1 + f) = f + 1 := by omega
  have hB : ((l.drop (f + 1)).take (t - f)).length = t - f := by simp; omega
  have e2 : f + 1 + (t - f) = t + 1 := by omega
  unfold splice mvL
  rw [if_pos h1, hB, e1, e2, List.take_succ_cons, List.drop_succ_cons, List.drop_eq_getElem_cons h2, show 1 + t = t + 1 by omega, List.cons_append, List.set_cons_succ]
  congr 1
  have hA : (l.take f).length = f := by simp; omega
  rw [List.set_append_right _ _ (by rw [hA]; omega), hA, List.set_append_right _ _ (by rw [hB]; omega), hB, Nat.sub_self, List.set_cons_zero]
theorem mv_ge (l : List Nat) (u f t : Nat) (h1 : t ≤ f) (h2 : f < l.length) : (splice (u :: l) (1 + (t + 1)) ((l.drop t).take (f - t))).set (1 + t) (l.getD f 0) = u :: mvL l f t := by
  have hB : ((l.drop t).take (f - t)).length = f - t := by simp; omega
  unfold splice mvL
  rw [if_neg (by omega), hB, show 1 + (t + 1) + (f - t) = f + 1 + 1 by omega, show 1 + (t + 1) = t + 1 + 1 by omega, List.take_succ_cons, List.drop_succ_cons, show 1 + t = t + 1 by omega, List.cons_append, List.set_cons_succ]
  congr 1
  have hA : (l.take t).length = t := by simp; omega
  rw [List.take_succ_eq_append_getElem (by omega), List.append_assoc, List.set_append_right _ _ (by rw [hA]; omega), hA, Nat.sub_self, List.cons_append, List.set_cons_zero]
  rfl

/-- The address of a cut of the slots. -/
def cutA (b l : Nat) : Addr := if l = 15 then ⟨b, 1, none⟩ else ⟨b, 1 + l, none⟩
theorem slice85 (W : World) (b l h : Nat) (h1 : l ≤ h) (h2 : h ≤ 15) :
    (Instr.sliceAt 85 (.pointer (some ⟨b, 1, none⟩)) (some (.int .i64 (l : Int))) (some (.int .i64 (h : Int))) none).run Try.prog W = .ok (.slice (some (cutA b l)) (h - l) (15 - l)) W := by
  have hu : Try.prog.underlying 85 = some (.array (Try.prog.arrayLen 85) (Try.prog.elem 85)) := by kernel_rfl
  have hn : Try.prog.arrayLen 85 = 15 := by kernel_rfl
  have hs : ∀ w, (sizeOf (Try.prog.elem 85)).run Try.prog w = .ok 1 w := fun w => by
    have h3 : (Try.prog.info? (Try.prog.elem 85)).map (·.size) = some 1 := by kernel_rfl
    cases hq : Try.prog.info? (Try.prog.elem 85) with
    | none => simp [hq] at h3
    | some i =>
      have : i.size = 1 := by simpa [hq] using h3
      simp [sizeOf, typeInfo, hq, this]
  rw [run_sliceAt_array_lh W 85 ⟨b, 1, none⟩ hu .i64 .i64 l h (by omega) (by omega) (by rw [hn]; omega), hs, hn]
  simp only [Result.andThen_ok, slicedAt, Int.toNat_natCast, Nat.mul_one, cutA, eq_comm (a := (15 : Nat)), Addr.add_mid]

set_option maxRecDepth 100000 in
set_option maxHeartbeats 1000000 in
theorem move_any (w : World) (b u : Nat) (l : List Nat) (f t : Nat) (hl : l.length = 15) (hf : f < 15) (ht : t < 15) (hB : Blk w b 87 (pv (u :: l))) :
    Calls Try.prog 54 #[.pointer (some ⟨b, 0, none⟩), .int .i64 f, .int .i64 t] w fun e w' => e = .returned (.int .i64 (l.getD f 0 : Nat)) ∧ Blk w' b 87 (pv (u :: mvL l f t)) ∧ Below b w w' := by
  have hfl : f < l.length := by omega
  have cf := hB.at (1 + f) (pv_get (x := l.getD f 0) (by rw [getD_of hfl, Nat.add_comm, List.getElem?_cons_succ]; simp [hfl]))
  by_cases hft : f < t
  · have hmv := Lib.hid (mv_lt l u f t hft (by omega))
    have hC : ((l.drop (f + 1)).take (t - f)).length = t - f := by simp; omega
    have hsrc : ∀ j v, (pvl ((l.drop (f + 1)).take (t - f)))[j]? = some v → (pv (u :: l))[1 + (f + 1) + j]? = some v := fun j v hj => by
      simp only [pvl, List.getElem?_map, Option.map_eq_some_iff, List.getElem?_take, List.getElem?_drop] at hj
      obtain ⟨x, hx, rfl⟩ := hj
      split at hx
      · exact pv_get (by rw [show 1 + (f + 1) + j = (f + 1 + j) + 1 by omega, List.getElem?_cons_succ]; exact hx)
      · cases hx
    generalize l.getD f 0 = d at cf hmv
    have hL : (pvl (u :: l)).length = 16 := by simp [pvl, hl]
    have hB' : Blk w b 87 (pvl (u :: l)).toArray := hB
    generalize hC' : (l.drop (f + 1)).take (t - f) = C at hC hsrc hmv
    clear hC'
    have HS := Lib.hid hsrc
    have HBn := Lib.hid hB'
    clear hsrc hB hB'
    have hbl := Lib.hid (Below.refl b w).drew
    have hw1 : IntKind.i64.wrap ((f : Int) + 1) = (f : Int) + 1 := by rw [IntKind.wrap_i64]; omega
    have hw2 : IntKind.i64.wrap ((t : Int) + 1) = (t : Int) + 1 := by rw [IntKind.wrap_i64]; omega
    have hs1 := fun W => slice85 W b f t (by omega) (by omega)
    have hs2 := fun W => slice85 W b (f + 1) (t + 1) (by omega) (by omega)
    have hc1 : cutA b f = ⟨b, 1 + f, none⟩ := if_neg (by omega)
    have hc2 : cutA b (f + 1) = ⟨b, 1 + (f + 1), none⟩ := if_neg (by omega)
    rw [hc1] at hs1
    rw [hc2] at hs2
    have i1 : ((f + 1 : Nat) : Int) = (f : Int) + 1 := by omega
    have i2 : ((t + 1 : Nat) : Int) = (t : Int) + 1 := by omega
    rw [i1, i2, show t + 1 - (f + 1) = t - f by omega] at hs2
    clear hc1 hc2 i1 i2
    go_enter Try.func54, Try.ntmps54
    go_upto_region 3 with fail
    go_region_law (refine step_copy_splice rfl (.tmp 22) (.tmp 30) 62 62 rfl 3 (by kernel_rfl) (by kernel_rfl) (some ⟨b, 1 + f, none⟩) (some ⟨b, 1 + (f + 1), none⟩) (t - f) (15 - f) (t - f) (15 - (f + 1)) (by simp [Act.eval, Act.put]) (by simp [Act.eval, Act.put]) b (1 + f) (pvl (u :: l)) 87 HBn.out.drew (pvl C) (by rw [pvl_len, hC]; exact (Nat.min_self _).symm) (fun _ => ⟨rfl, _, rfl, fun j v hj => by rw [Addr.add_mid]; exact HBn.out.drew.at _ (HS.out j v hj)⟩) (by rw [pvl_len, hC, hL]; omega) (pvl_one C) b w hbl.out (Nat.le_refl _) ?_; intro w4 hg4 hb4)
    have B4 : Blk w4 b 87 (splice (pvl (u :: l)) (1 + f) (pvl C)).toArray := hg4
    rw [splice_pvl] at B4
    have hS : (splice (u :: l) (1 + f) C).length = 16 := by rw [length_splice _ _ _ (by rw [hC]; simp only [List.length_cons, hl]; omega)]; simp [hl]
    generalize splice (u :: l) (1 + f) C = S at B4 hmv hS
    have ct := B4.at (1 + t) (pv_get (List.getElem?_eq_getElem (by omega)))
    have ft := B4.free (1 + t)
    clear hg4
    go_wp2
    go_ret
    exact ⟨rfl, by rw [← hmv.out, ← pv_set]; exact B4.set (1 + t) _, by (repeat first | with_reducible refine Below.drew ?_ | with_reducible refine below_drewN ?_ _ | with_reducible refine Below.alloc ?_ (by simp only [World.size_alloc, World.size_setCell, World.size_drew, World.heap_drewN]; omega) _ | with_reducible refine Below.setCell ?_ (by dsimp only; omega) _); exact hb4⟩
  · skip
    have hmv := Lib.hid (mv_ge l u f t (by omega) (by omega))
    have hC : ((l.drop t).take (f - t)).length = f - t := by simp; omega
    have hsrc : ∀ j v, (pvl ((l.drop t).take (f - t)))[j]? = some v → (pv (u :: l))[1 + t + j]? = some v := fun j v hj => by
      simp only [pvl, List.getElem?_map, Option.map_eq_some_iff, List.getElem?_take, List.getElem?_drop] at hj
      obtain ⟨x, hx, rfl⟩ := hj
      split at hx
      · exact pv_get (by rw [show 1 + t + j = (t + j) + 1 by omega, List.getElem?_cons_succ]; exact hx)
      · cases hx
    generalize l.getD f 0 = d at cf hmv
    have hL : (pvl (u :: l)).length = 16 := by simp [pvl, hl]
    have hB' : Blk w b 87 (pvl (u :: l)).toArray := hB
    generalize hC' : (l.drop t).take (f - t) = C at hC hsrc hmv
    clear hC'
    have HS := Lib.hid hsrc
    have HBn := Lib.hid hB'
    clear hsrc hB hB'
    have hbl := Lib.hid (Below.refl b w).drew
    have hw1 : IntKind.i64.wrap ((f : Int) + 1) = (f : Int) + 1 := by rw [IntKind.wrap_i64]; omega
    have hw2 : IntKind.i64.wrap ((t : Int) + 1) = (t : Int) + 1 := by rw [IntKind.wrap_i64]; omega
    have hs1 := fun W => slice85 W b (t + 1) (f + 1) (by omega) (by omega)
    have hs2 := fun W => slice85 W b t f (by omega) (by omega)
    have hc2 : cutA b t = ⟨b, 1 + t, none⟩ := if_neg (by omega)
    have hc1 : 0 < f - t → cutA b (t + 1) = ⟨b, 1 + (t + 1), none⟩ := fun h => if_neg (by omega)
    rw [hc2] at hs2
    have i1 : ((f + 1 : Nat) : Int) = (f : Int) + 1 := by omega
    have i2 : ((t + 1 : Nat) : Int) = (t : Int) + 1 := by omega
    rw [i1, i2, show f + 1 - (t + 1) = f - t by omega] at hs1
    have HC := Lib.hid hc1
    clear hc1 hc2 i1 i2
    generalize cutA b (t + 1) = cu at hs1 HC
    go_enter Try.func54, Try.ntmps54
    go_upto_region 4 with fail
    go_region_law (refine step_copy_splice rfl (.tmp 39) (.tmp 45) 62 62 rfl 3 (by kernel_rfl) (by kernel_rfl) (some cu) (some ⟨b, 1 + t, none⟩) (f - t) (15 - (t + 1)) (f - t) (15 - t) (by simp [Act.eval, Act.put]) (by simp [Act.eval, Act.put]) b (1 + (t + 1)) (pvl (u :: l)) 87 HBn.out.drew (pvl C) (by rw [pvl_len, hC]; exact (Nat.min_self _).symm) (fun h0 => ⟨congrArg some (HC.out (by rw [pvl_len, hC] at h0; exact h0)), _, rfl, fun j v hj => by rw [Addr.add_mid]; exact HBn.out.drew.at _ (HS.out j v hj)⟩) (by rw [pvl_len, hC, hL]; omega) (pvl_one C) b w hbl.out (Nat.le_refl _) ?_; intro w4 hg4 hb4)
    have B4 : Blk w4 b 87 (splice (pvl (u :: l)) (1 + (t + 1)) (pvl C)).toArray := hg4
    rw [splice_pvl] at B4
    have hS : (splice (u :: l) (1 + (t + 1)) C).length = 16 := by rw [length_splice _ _ _ (by rw [hC]; simp only [List.length_cons, hl]; omega)]; simp [hl]
    generalize splice (u :: l) (1 + (t + 1)) C = S at B4 hmv hS
    have ct := B4.at (1 + t) (pv_get (List.getElem?_eq_getElem (by omega)))
    have ft := B4.free (1 + t)
    clear hg4
    go_wp2
    go_ret
    exact ⟨rfl, by rw [← hmv.out, ← pv_set]; exact B4.set (1 + t) _, by (repeat first | with_reducible refine Below.drew ?_ | with_reducible refine below_drewN ?_ _ | with_reducible refine Below.alloc ?_ (by simp only [World.size_alloc, World.size_setCell, World.size_drew, World.heap_drewN]; omega) _ | with_reducible refine Below.setCell ?_ (by dsimp only; omega) _); exact hb4⟩

end Go.Proofs.Ythplnecnagbedaa
