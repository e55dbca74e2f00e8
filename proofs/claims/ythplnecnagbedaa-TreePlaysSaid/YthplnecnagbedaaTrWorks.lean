/- works of the tree's laws, grown: each by its contract; conditions: none. -/
import Derived.Test.YthplnecnagbedaaTrKit
namespace Go.Proofs.Ythplnecnagbedaa
open Go.RowKit

def ka : ByteArray := ⟨#[97]⟩
def kb : ByteArray := ⟨#[98]⟩
def kc : ByteArray := ⟨#[99]⟩
def kd : ByteArray := ⟨#[100]⟩
theorem blk (a b : UInt8) : bl ⟨#[a]⟩ ⟨#[b]⟩ = decide (a < b) := by
  unfold bl
  rw [ByteArray.toList_eq, ByteArray.toList_eq]
  simp [Op.bytesLess]
theorem kne (a b : UInt8) : ((⟨#[a]⟩ : ByteArray) = ⟨#[b]⟩) = (a = b) := by simp
theorem w_s1 : putSpec [] kb 1 = ([(kb, 1)], 0, false, 0) := by
  simp [putSpec, getE, hasE, lbE, putE, kb, ByteArray.size]
theorem w_s2 : putSpec [(kb, 1)] kd 2 = ([(kb, 1), (kd, 2)], 0, false, 0) := by
  simp [putSpec, getE, hasE, lbE, putE, kb, kd, blk, ByteArray.size]
theorem w_s3 : putSpec [(kb, 1), (kd, 2)] kb 5 = ([(kb, 5), (kd, 2)], 1, true, 0) := by
  simp [putSpec, getE, hasE, lbE, putE, kb, kd, blk, ByteArray.size]
theorem w_s4 : putSpec [(kb, 5), (kd, 2)] kc 3 = ([(kb, 5), (kc, 3), (kd, 2)], 0, false, 0) := by
  simp [putSpec, getE, hasE, lbE, putE, kb, kc, kd, blk, ByteArray.size]
theorem w_c1 : scanE [(kb, 1), (kd, 2)] ka kd 9 = [(kb, 1)] := by
  simp [scanE, goE, ka, kb, kd, blk, emp]
theorem w_c2 : scanE [(kb, 5), (kc, 3), (kd, 2)] ka kd 9 = [(kb, 5), (kc, 3)] := by
  simp [scanE, goE, ka, kb, kc, kd, blk, emp]
theorem w_v1 : ([(kb, 5), (kd, 2)] : List Ent).length = ([(kb, 1), (kd, 2)] : List Ent).length := rfl

end Go.Proofs.Ythplnecnagbedaa
