/- same: a node and the reference's node that stand alike; conditions: none. -/
import Derived.Test.YthplnecnagbedaaRnSplit
import Derived.Test.YthplnecnagbedaaNdKit
namespace Go.Proofs.Ythplnecnagbedaa
open Go.RowKit

set_option maxRecDepth 100000 in
set_option maxHeartbeats 4000000 in
theorem same_any (w : World) (g r kb vb : Nat) (N : Nd) (hok : NdOk N) (hN : Blk w g 95 (ndCells N)) (hR : RNd w r kb vb N) :
    Calls Try.prog 39 #[.pointer (some ⟨g, 0, none⟩), .pointer (some ⟨r, 0, none⟩)] w fun e w' => e = .returned (.bool true) ∧ Below w.heap.size w w' := by
  have hu15 : (keysM N).length ≤ 15 := by rw [keysM_len]; exact hok.u15
  have HOK := Lib.hid hok
  have HN := Lib.hid hN
  have HR := Lib.hid hR
  clear hok hN hR
  go_enter Try.func39, Try.ntmps39
  go_upto_region 2 with (go_at_call 33; refine (counts_any _ g N HOK.out.kl HOK.out.vl HN.out).mono ?_; rintro e w2 ⟨rfl, q2, rfl⟩)
  have HN2 := Lib.hid (HN.out.drewN q2).drew
  have HR2 := Lib.hid ((HR.out.drewN q2).drewN 1)
  have HB2 := Lib.hid (below_drewN (below_drewN (Below.refl w.heap.size w) q2) 1)
  generalize hww : w.drewN q2 = w2 at HN2 HR2 HB2 ⊢
  have hz2 : w2.heap.size = w.heap.size := by rw [← hww]; rfl
  have HZ2 := Lib.hid hz2
  clear hww hz2
  go_region_with (first
    | (go_at_call 30; refine (order_any _ g N HNS.out).mono ?_; rintro e w7 ⟨rfl, rfl⟩)
    | (go_at_call 32; refine hst.mono ?_; rintro e wS ⟨rfl, qS, rfl⟩; have HNS := Lib.hid (HNL.out.drewN qS); have hRS := HRL.out.drewN qS; have s0 : (wL.drewN qS).cell? ⟨r, 0, none⟩ = some (.int .u64 (N.x : Nat)) := hRS.top.at 0 rfl; have s3 : (wL.drewN qS).cell? ⟨r, 3, none⟩ = some (.int .i64 (N.ins : Nat)) := hRS.top.at 3 rfl; have s4 : (wL.drewN qS).cell? ⟨r, 4, none⟩ = some (.int .i64 (N.spl : Nat)) := hRS.top.at 4 rfl; have HBS := Lib.hid (below_drewN HBL.out qS))
    | (go_at_call 29; (with_reducible refine (keys_any _ g N HOK.out HNA.out).mono ?_); rintro e wL ⟨aK, kK, rfl, hOK, bK⟩; have HNL := Lib.hid (HNA.out.below bK HNA.out.lt); have HRL := Lib.hid (HRA.out.next bK); have HBL := Lib.hid (HBA.out.trans (bK.mono HBA.out.size)); have hst := sameTexts_any wL aK aA _ _ kK kA (keysM N) (keysM N) rfl rfl ⟨by omega, by omega⟩ (OwnS.rd hOK) (OwnS.below HOA.out bK).rd; rw [decide_eq_true rfl] at hst)
    | (go_at_call 61; (with_reducible refine (rall_any _ r kb vb N HOK.out HRK.out).mono ?_); rintro e wL ⟨aA, kA, rfl, hOA, bA⟩; have HNL := Lib.hid (HNK.out.below bA HNK.out.lt); have HRL := Lib.hid (HRK.out.next bA); have HBL := Lib.hid (HBK.out.trans (bA.mono HBK.out.size)); have hst := sameTexts_any wL aK aA _ _ kK kA (keysM N) (keysM N) rfl rfl ⟨by omega, by omega⟩ (OwnS.below HOKK.out bA).rd (OwnS.rd hOA); rw [decide_eq_true rfl] at hst)
    | (go_at_call 29; refine (keys_any _ g N HOK.out HN2.out).mono ?_; rintro e wK ⟨aK, kK, rfl, hOK, bK⟩; have HNK := Lib.hid (HN2.out.below bK HN2.out.lt); have HRK := Lib.hid (HR2.out.next bK); have HBK := Lib.hid (HB2.out.trans (bK.mono HB2.out.size)); have HOKK := Lib.hid hOK; clear hOK)
    | (go_at_call 61; refine (rall_any _ r kb vb N HOK.out HR2.out).mono ?_; rintro e wA ⟨aA, kA, rfl, hOA, bA⟩; have HNA := Lib.hid (HN2.out.below bA HN2.out.lt); have HRA := Lib.hid (HR2.out.next bA); have HBA := Lib.hid (HB2.out.trans (bA.mono HB2.out.size)); have HOA := Lib.hid hOA; clear hOA))
  all_goals
    go_wp2_with fail
    go_ret
    exact ⟨rfl, HBS.out⟩

end Go.Proofs.Ythplnecnagbedaa
