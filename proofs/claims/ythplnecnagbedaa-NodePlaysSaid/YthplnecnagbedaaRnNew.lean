/- The reference's New by contract; conditions: none. -/
import Derived.Test.YthplnecnagbedaaRnAll
namespace Go.Proofs.Ythplnecnagbedaa
open Go.RowKit

theorem Try.info3' : (Try.prog.info? 3).map (fun i => (i.zero, i.size, i.bytes)) = some (some (.int .i64 0), 1, 8) := by kernel_rfl
theorem make44 (W : World) : (Instr.makeSlice 44 (.int .i64 15) (.int .i64 15)).run Try.prog W = .ok (.slice (some ⟨W.heap.size, 0, none⟩) 15 15) (W.alloc (.cells (kCells nd0) 9)) := by
  obtain ⟨i0, hi, hz0, hz1, hz2⟩ := info_parts Try.info9
  have hV : kCells nd0 = (List.replicate 15 (Value.string ⟨#[]⟩)).toArray := by unfold kCells nd0; simp only [List.map_replicate]; rfl
  rw [hV]
  exact run_makeN (P := Try.prog) 44 9 i0 (.string ⟨#[]⟩) Try.underlying44 hi hz0 hz1 rfl 15 (by rw [hz2]; omega) (by omega) W
theorem make62 (W : World) : (Instr.makeSlice 62 (.int .i64 15) (.int .i64 15)).run Try.prog W = .ok (.slice (some ⟨W.heap.size, 0, none⟩) 15 15) (W.alloc (.cells (vCells nd0) 3)) := by
  obtain ⟨i0, hi, hz0, hz1, hz2⟩ := info_parts Try.info3'
  have hV : vCells nd0 = (List.replicate 15 (Value.int .i64 0)).toArray := by unfold vCells nd0; simp only [List.map_replicate]
  rw [hV]
  exact run_makeN (P := Try.prog) 62 3 i0 (.int .i64 0) Try.underlying62 hi hz0 hz1 rfl 15 (by rw [hz2]; omega) (by omega) W
theorem blk_new' {w : World} {t : TypeId} {cs : Array Value} {g : Nat} (h : g = w.heap.size) : Blk (w.alloc (.cells cs t)) g t cs := by subst h; exact Blk.new _ _ _
def RNew (w : World) (e : Ending) (w' : World) : Prop := ∃ kb vb, e = .returned (.pointer (some ⟨w'.heap.size - 1, 0, none⟩)) ∧ RNd w' (w'.heap.size - 1) kb vb nd0 ∧ w.heap.size ≤ w'.heap.size - 1 ∧ w.heap.size ≤ kb ∧ w.heap.size ≤ vb ∧ Below w.heap.size w w'
set_option maxRecDepth 100000 in
theorem rnew_fin {w X : World} {kb vb r : Nat} {K0 V0 : Array Value} (hK0 : kCells nd0 = K0) (hV0 : vCells nd0 = V0) (hk : Blk X kb 9 K0) (hv : Blk X vb 3 V0) (h1 : w.heap.size ≤ kb) (h2 : w.heap.size ≤ vb) (hb : Below w.heap.size w X) (hr : r = X.heap.size) :
    RNew w (.returned (.pointer (some ⟨r, 0, none⟩))) (X.alloc (.cells #[.int .u64 17134975606245761280, .slice (some ⟨kb, 0, none⟩) 15 15, .slice (some ⟨vb, 0, none⟩) 15 15, .int .i64 0, .int .i64 0] 101)) := by
  subst hr hK0 hV0
  have e : (X.alloc (.cells #[.int .u64 17134975606245761280, .slice (some ⟨kb, 0, none⟩) 15 15, .slice (some ⟨vb, 0, none⟩) 15 15, .int .i64 0, .int .i64 0] 101)).heap.size - 1 = X.heap.size := by simp
  unfold RNew
  rw [e]
  exact ⟨kb, vb, rfl, ⟨Blk.new _ _ _, hk.alloc _, hv.alloc _⟩, hb.size, h1, h2, hb.alloc hb.size _⟩
set_option maxHeartbeats 4000000 in
theorem rnew_any (w : World) : Calls Try.prog 34 #[] w (RNew w) := by
  have hE := rempty_any
  have h44 := make44
  have h62 := make62
  generalize hK0 : kCells nd0 = K0 at h44
  generalize hV0 : vCells nd0 = V0 at h62
  have HK0 := Lib.hid hK0
  have HV0 := Lib.hid hV0
  clear hK0 hV0
  go_enter Try.func34, Try.ntmps34
  go_upto_region 1 with fail
  go_region_with (go_at_call 20; refine (hE _).mono ?_; rintro e w1 ⟨rfl, b1⟩)
  all_goals
    go_wp2_with fail
    go_ret
    have hz := b1.size
    have hz' := hz
    simp only [World.size_alloc, World.size_drew] at hz'
    refine rnew_fin HK0.out HV0.out ?_ ?_ ?_ ?_ ?_ ?_
    iterate 2
      · repeat first
          | with_reducible exact blk_new' (by first | rfl | simp only [World.size_alloc, World.size_drew])
          | with_reducible refine Blk.alloc ?_ _
          | with_reducible refine Blk.drew ?_
          | with_reducible refine Blk.below ?_ b1 (by first | omega | (simp only [World.size_alloc, World.size_drew]; omega))
    · simp only [World.size_alloc, World.size_drew] at *; omega
    · simp only [World.size_alloc, World.size_drew] at *; omega
    · repeat first
        | with_reducible exact Below.refl _ _
        | with_reducible refine Below.alloc ?_ (by first | omega | (simp only [World.size_alloc, World.size_drew]; omega)) _
        | with_reducible refine Below.drew ?_
        | with_reducible refine Below.trans ?_ (b1.mono (by first | omega | (simp only [World.size_alloc, World.size_drew]; omega)))
    · first | rfl | simp only [World.size_alloc, World.size_drew]

end Go.Proofs.Ythplnecnagbedaa
