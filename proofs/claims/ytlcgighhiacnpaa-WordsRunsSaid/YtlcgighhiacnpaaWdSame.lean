/- Same tells that two reports which say the same are the same; conditions: as they lie. -/
import Derived.Test.YtlcgighhiacnpaaWdRefStart
import Derived.Test.YtlcgighhiacnpaaWdEight
namespace Go.Proofs.Ytlcgighhiacnpaa
open Go.RowKit

structure SameF (w W : World) (va vb : Value) (vs ws : Array Value) : Prop where
  below : Below w.heap.size w W
  a : Blk W w.heap.size 34 vs
  b : Blk W (w.heap.size + 1) 34 ws

set_option maxRecDepth 100000 in
set_option maxHeartbeats 4000000 in
theorem same_any (w : World) (B1 B2 : Nat) (ac ar ad bc br bd : Option Addr) (k1 k2 k3 k4 k5 k6 : Nat) (R : Rep) (hA : RepAt B1 w (.slice ac R.cells.length k1) (.slice ar R.regs.length k2) (.slice ad R.done.length k3) R) (hB : RepAt B2 w (.slice bc R.cells.length k4) (.slice br R.regs.length k5) (.slice bd R.done.length k6) R)
    (hlen : R.regs.length = R.done.length) :
    Calls Try.prog 15 #[repV (.slice ac R.cells.length k1) (.slice ar R.regs.length k2) (.slice ad R.done.length k3) R, repV (.slice bc R.cells.length k4) (.slice br R.regs.length k5) (.slice bd R.done.length k6) R] w fun e w' => e = .returned (.bool true) ∧ Below w.heap.size w w' := by
  obtain ⟨C, G, D, S⟩ := R
  unfold repV
  dsimp only at *
  have h8 : Rows8 G := hA.rlen
  have hcm := own_max hA.cells.1
  have hgm := own_max hA.regs
  have hca := hA.cells.rd
  have hcb := hB.cells.rd
  have hga := own_rd hA.regs
  have hgb := own_rd hB.regs
  have hda := own_rd hA.done
  have hdb := own_rd hB.done
  clear hA hB
  obtain ⟨n, hn⟩ : ∃ n, n = C.length := ⟨_, rfl⟩
  obtain ⟨m, hm⟩ : ∃ m, m = G.length := ⟨_, rfl⟩
  rw [← hlen]
  rw [← hn] at hcm ⊢
  rw [← hm] at hgm ⊢
  have HCA := Lib.hid hca
  have HCB := Lib.hid hcb
  have HGA := Lib.hid hga
  have HGB := Lib.hid hgb
  have HDA := Lib.hid hda
  have HDB := Lib.hid hdb
  have HL := Lib.hid hlen
  have HN := Lib.hid hn
  have HM := Lib.hid hm
  have H8 := Lib.hid h8
  clear hca hcb hga hgb hda hdb hlen hn hm h8
  go_enter Try.func15, Try.ntmps15
  go_wp2_with fail
  have hb0 : Below w.heap.size w ((w.alloc (.cells #[.slice ac n k1, .slice ar m k2, .slice ad m k3, .int .i64 S] 34)).alloc (.cells #[.slice bc n k4, .slice br m k5, .slice bd m k6, .int .i64 S] 34)) := ((Below.refl _ w).alloc (Nat.le_refl _) _).alloc (by simp) _
  have ha0 : Blk ((w.alloc (.cells #[.slice ac n k1, .slice ar m k2, .slice ad m k3, .int .i64 S] 34)).alloc (.cells #[.slice bc n k4, .slice br m k5, .slice bd m k6, .int .i64 S] 34)) w.heap.size 34 #[.slice ac n k1, .slice ar m k2, .slice ad m k3, .int .i64 S] := (Blk.new' _ _ _ rfl).alloc _
  have hbb0 : Blk ((w.alloc (.cells #[.slice ac n k1, .slice ar m k2, .slice ad m k3, .int .i64 S] 34)).alloc (.cells #[.slice bc n k4, .slice br m k5, .slice bd m k6, .int .i64 S] 34)) (w.heap.size + 1) 34 #[.slice bc n k4, .slice br m k5, .slice bd m k6, .int .i64 S] := Blk.new' _ _ _ (by simp)
  generalize ((w.alloc (.cells #[.slice ac n k1, .slice ar m k2, .slice ad m k3, .int .i64 S] 34)).alloc (.cells #[.slice bc n k4, .slice br m k5, .slice bd m k6, .int .i64 S] 34)) = W at hb0 ha0 hbb0 ⊢
  have a0 : W.cell? ⟨w.heap.size, 0, none⟩ = some (.slice ac n k1) := ha0.at 0 rfl
  have a1 : W.cell? ⟨w.heap.size, 1, none⟩ = some (.slice ar m k2) := ha0.at 1 rfl
  have a2 : W.cell? ⟨w.heap.size, 2, none⟩ = some (.slice ad m k3) := ha0.at 2 rfl
  have b0 : W.cell? ⟨w.heap.size + 1, 0, none⟩ = some (.slice bc n k4) := hbb0.at 0 rfl
  have b1 : W.cell? ⟨w.heap.size + 1, 1, none⟩ = some (.slice br m k5) := hbb0.at 1 rfl
  have b2 : W.cell? ⟨w.heap.size + 1, 2, none⟩ = some (.slice bd m k6) := hbb0.at 2 rfl
  have HB0 := Lib.hid hb0
  clear hb0 ha0 hbb0
  go_loopg [5] n (fun gn i wr => ∃ k q : Nat, k ≤ n ∧ i = .int .i64 k ∧ gn = n - k ∧ wr = W.drewN q)
  case atStart => exact ⟨0, 0, Nat.zero_le _, rfl, rfl, rfl⟩
  case round =>
    obtain ⟨k, q, hk, rfl, rfl, rfl⟩ := hrel
    by_cases hkn : k < n
    · have hkI : (k : Int) < (n : Int) := by omega
      have hbel := HB0.out
      obtain ⟨ba, oa, rfl, hba, c1, _⟩ := HCA.out k (by rw [← HN.out]; exact hkn)
      obtain ⟨bb, ob, rfl, hbb, c2, _⟩ := HCB.out k (by rw [← HN.out]; exact hkn)
      have c1 := (hbel.cell (p := ⟨ba, _, none⟩) hba).trans c1
      have c2 := (hbel.cell (p := ⟨bb, _, none⟩) hbb).trans c2
      generalize C.getD k 0 = x at c1 c2
      clear a1 a2 b1 b2 hbel
      go_upto_region 6 with fail
      go_quiet (fail)
      go_wp2_with fail
      go_roundg (n - (k + 1))
      case rel => exact ⟨k + 1, _, by omega, by go_num, rfl, rfl⟩
      case measure => omega
    · obtain rfl : n = k := by omega
      go_wp2_with fail
      go_loopg [6] m (fun gn i wr => ∃ k q : Nat, k ≤ m ∧ i = .int .i64 k ∧ gn = m - k ∧ wr = W.drewN q)
      case atStart => exact ⟨0, q, Nat.zero_le _, rfl, rfl, rfl⟩
      case round =>
        obtain ⟨k, q, hk, rfl, rfl, rfl⟩ := hrel
        by_cases hkn : k < m
        · have hkI : (k : Int) < (m : Int) := by omega
          have hbel := HB0.out
          have hkG : k < G.length := by rw [← HM.out]; exact hkn
          have hkD : k < D.length := by have := HL.out; omega
          have rowA : ∀ A, A < 8 → ∃ b, ar = some ⟨b, 0, none⟩ ∧ W.cell? ⟨b, k * 8 + A, none⟩ = some (.int .u64 ((G.getD k []).getD A 0 : Nat)) := fun A hA => by
            obtain ⟨b, e, _, hb, hc⟩ := HGA.out _ _ (regC_at H8.out hkG hA)
            exact ⟨b, e, (hbel.cell (p := ⟨b, _, none⟩) hb).trans hc⟩
          have rowB : ∀ A, A < 8 → ∃ b, br = some ⟨b, 0, none⟩ ∧ W.cell? ⟨b, k * 8 + A, none⟩ = some (.int .u64 ((G.getD k []).getD A 0 : Nat)) := fun A hA => by
            obtain ⟨b, e, _, hb, hc⟩ := HGB.out _ _ (regC_at H8.out hkG hA)
            exact ⟨b, e, (hbel.cell (p := ⟨b, _, none⟩) hb).trans hc⟩
          obtain ⟨da, ea, _, hda, ca⟩ := HDA.out k (.bool (D.getD k false)) (by simp [List.getD, hkD])
          obtain ⟨dz, ez, _, hdz, cz⟩ := HDB.out k (.bool (D.getD k false)) (by simp [List.getD, hkD])
          have ca := (hbel.cell (p := ⟨da, _, none⟩) hda).trans ca
          have cz := (hbel.cell (p := ⟨dz, _, none⟩) hdz).trans cz
          obtain ⟨ra, ea2, q0⟩ := rowA 0 (by omega)
          obtain ⟨rz, ez2, p0⟩ := rowB 0 (by omega)
          have rowA2 : ∀ A, A < 8 → W.cell? ⟨ra, k * 8 + A, none⟩ = some (.int .u64 ((G.getD k []).getD A 0 : Nat)) := fun A hA => by
            obtain ⟨b, e, hc⟩ := rowA A hA
            rw [ea2] at e
            simp only [Option.some.injEq, Addr.mk.injEq, and_true] at e
            rw [e]; exact hc
          have rowB2 : ∀ A, A < 8 → W.cell? ⟨rz, k * 8 + A, none⟩ = some (.int .u64 ((G.getD k []).getD A 0 : Nat)) := fun A hA => by
            obtain ⟨b, e, hc⟩ := rowB A hA
            rw [ez2] at e
            simp only [Option.some.injEq, Addr.mk.injEq, and_true] at e
            rw [e]; exact hc
          clear rowA rowB q0 p0
          subst ea ez ea2 ez2
          have q0 : W.cell? ⟨ra, k * 8, none⟩ = some (.int .u64 ((G.getD k []).getD 0 0 : Nat)) := rowA2 0 (by omega)
          have q1 := rowA2 1 (by omega)
          have q2 := rowA2 2 (by omega)
          have q3 := rowA2 3 (by omega)
          have q4 := rowA2 4 (by omega)
          have q5 := rowA2 5 (by omega)
          have q6 := rowA2 6 (by omega)
          have q7 := rowA2 7 (by omega)
          have p0 : W.cell? ⟨rz, k * 8, none⟩ = some (.int .u64 ((G.getD k []).getD 0 0 : Nat)) := rowB2 0 (by omega)
          have p1 := rowB2 1 (by omega)
          have p2 := rowB2 2 (by omega)
          have p3 := rowB2 3 (by omega)
          have p4 := rowB2 4 (by omega)
          have p5 := rowB2 5 (by omega)
          have p6 := rowB2 6 (by omega)
          have p7 := rowB2 7 (by omega)
          clear rowA2 rowB2 hbel a0 b0
          generalize (G.getD k []).getD 0 0 = x0 at *
          generalize (G.getD k []).getD 1 0 = x1 at *
          generalize (G.getD k []).getD 2 0 = x2 at *
          generalize (G.getD k []).getD 3 0 = x3 at *
          generalize (G.getD k []).getD 4 0 = x4 at *
          generalize (G.getD k []).getD 5 0 = x5 at *
          generalize (G.getD k []).getD 6 0 = x6 at *
          generalize (G.getD k []).getD 7 0 = x7 at *
          generalize D.getD k false = bd0 at *
          have hneq : ∀ W, (binOp .neq 47 (.agg #[.int .u64 x0, .int .u64 x1, .int .u64 x2, .int .u64 x3, .int .u64 x4, .int .u64 x5, .int .u64 x6, .int .u64 x7]) (.agg #[.int .u64 x0, .int .u64 x1, .int .u64 x2, .int .u64 x3, .int .u64 x4, .int .u64 x5, .int .u64 x6, .int .u64 x7])).run Try.prog W = .ok (.bool false) W := fun W => run_neq_words W _ (uvl_at (l := [x0, x1, x2, x3, x4, x5, x6, x7]) rfl)
          go_upto_region 11 with fail
          go_quiet (fail)
          go_wp2_with fail
          go_roundg (m - (k + 1))
          case rel => exact ⟨k + 1, _, by omega, by go_num, rfl, rfl⟩
          case measure => omega
        · obtain rfl : m = k := by omega
          have HF := Lib.hid (below_drewN HB0.out q)
          go_wp2_with fail
          go_ret
          exact ⟨rfl, HF.out⟩

end Go.Proofs.Ytlcgighhiacnpaa
