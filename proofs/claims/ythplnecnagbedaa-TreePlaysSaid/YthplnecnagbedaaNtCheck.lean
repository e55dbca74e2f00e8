/- Check and Empty of package node, each by its contract; conditions: a word is below 2 to the 64. -/
import Derived.Test.YthplnecnagbedaaNtMove
import Derived.Test.YthplnecnagbedaaNtCheckPure
namespace Go.Proofs.Ythplnecnagbedaa
open Go.RowKit

theorem wraps_i64_16 (n : Int) (h₀ : 0 ≤ n) (h₁ : n < 2 ^ 16) : IntKind.i64.wrap n = n := by rw [IntKind.wrap_i64]; omega

theorem field87 (W : World) (A : Array Value) : (Instr.field 87 (.agg A) 1).run Try.prog W = .ok (.agg (A.extract 1 16)) W := by kernel_rfl

set_option maxRecDepth 100000 in
set_option maxHeartbeats 1000000 in
theorem check_any (w : World) (x : Nat) (hx : x < 18446744073709551616) : Calls Try.prog 21 #[.int .u64 x] w fun e w' => e = .returned (.int .i64 (chkE x)) ∧ Below w.heap.size w w' := by
  have hA := apart_any w x hx
  have hx1 : (pv (partsL x)).extract 1 16 = (pvl (slotsL x)).toArray := by
    rw [partsL_eq]
    apply Array.toList_inj.1
    simp only [pv, pvl, Array.toList_extract, List.extract, List.map_cons, List.drop_succ_cons, List.drop_zero]
    exact List.take_of_length_le (by simp [slots_len])
  have hd : ∀ d ∈ slotsL x, d < 16 := digs_lt 15 _
  have hl := slots_len x
  have hc : chkE x = if orB (slotsL x) = 32767 then 0 else 4 := by unfold chkE; simp only [orB_ok hl]
  generalize slotsL x = l at hx1 hd hl hc
  have hf := fun W => field87 W (pv (partsL x))
  rw [hx1] at hf
  have HC := Lib.hid hc
  clear hx1 hc
  generalize pv (partsL x) = A at hA hf
  go_enter Try.func21, Try.ntmps21
  go_upto_region 3 with (go_at_call 53; refine hA.mono ?_; rintro e w1 ⟨rfl, b1⟩)
  go_loopg [3, 9] 15 (fun gn z i wr => ∃ (j : Nat), j ≤ 15 ∧ i = .int .i64 j ∧ z = .int .i64 (orB (l.take j) : Nat) ∧ gn = 15 - j ∧ Below w.heap.size w wr)
  case atStart => exact ⟨0, by omega, rfl, rfl, rfl, b1⟩
  case round =>
    obtain ⟨j, hj, rfl, rfl, rfl, hb⟩ := hrel
    by_cases h15 : j < 15
    · have hjl : j < l.length := by omega
      have hxd : l[j] < 16 := hd _ (List.getElem_mem hjl)
      have hidx : (pvl l).toArray[j]? = some (.int .i64 (l[j] : Nat)) := by simp [pvl, hjl]
      have hor := orB_snoc (l.take j) l[j]
      rw [← List.take_succ_eq_append_getElem hjl] at hor
      have h1 : orB (l.take j) < 2 ^ 16 := orB_lt _ (fun s hs => hd s (List.mem_of_mem_take hs))
      have h2 : 2 ^ l[j] < 2 ^ 16 := Nat.pow_lt_pow_right (by omega) hxd
      have hX := (bits_nat .i64 16 (by decide) wraps_i64_16 _ _ h1 h2).2
      rw [← hor] at hX
      have HI := Lib.hid hidx
      generalize l[j] = d at HI h2 hX hxd
      obtain ⟨z2, hz2⟩ : ∃ z2, z2 = orB (l.take (j + 1)) := ⟨_, rfl⟩
      rw [← hz2] at hX
      have HZ := Lib.hid hz2
      generalize orB (l.take j) = z at hX h1
      clear hor hidx hz2
      go_wp2_with (refine wpList_index_arr rfl 85 _ _ rfl 15 3 (by kernel_rfl) (by kernel_rfl) (by kernel_rfl) _ rfl j rfl h15 _ HI.out ?_)
      have hw : wrap64 ((2 : Int) ^ d) = ((2 ^ d : Nat) : Int) := by
        have e : ((2 ^ d : Nat) : Int) = (2 : Int) ^ d := by simp
        rw [← e]
        have h3 : 2 ^ d < 65536 := h2
        generalize 2 ^ d = y at h3 ⊢
        unfold wrap64; omega
      go_roundg (15 - (j + 1))
      case rel => exact ⟨j + 1, by omega, by go_num, by rw [hw, hX, HZ.out], rfl, hb⟩
      case measure => omega
    · obtain rfl : j = 15 := by omega
      rw [List.take_of_length_le (by omega)]
      by_cases ho : orB l = 32767
      · have hce : chkE x = 0 := by rw [HC.out, if_pos ho]
        rw [ho]
        go_wp2
        go_ret
        exact ⟨by rw [hce]; rfl, hb⟩
      · have hce : chkE x = 4 := by rw [HC.out, if_neg ho]
        have ho' : (((orB l : Nat) : Int) != 32767) = true := by simp; omega
        go_wp2
        go_ret
        exact ⟨by rw [hce]; rfl, hb⟩

theorem empty_dig : ∀ j, j < 15 → 17134975606245761280 / 2 ^ (4 + 4 * j) % 16 = j := by decide

set_option maxRecDepth 100000 in
set_option maxHeartbeats 1000000 in
theorem empty_any (w : World) : Calls Try.prog 19 #[] w fun e w' => e = .returned (.int .u64 17134975606245761280) ∧ Below w.heap.size w w' := by
  have hW := fun W => word_any W 0 (slotsL 17134975606245761280) (slots_len _) (by omega) (digs_lt 15 _)
  have hwp := word_parts 17134975606245761280 (by omega)
  rw [show (17134975606245761280 : Nat) % 16 = 0 from rfl] at hwp
  rw [hwp, show (0 :: slotsL 17134975606245761280) = partsL 17134975606245761280 from rfl] at hW
  clear hwp
  have p0' := partsAt_zero 17134975606245761280
  rw [show (17134975606245761280 : Nat) % 16 = 0 from rfl] at p0'
  have p0 := Lib.hid p0'
  clear p0'
  have hp15 := Lib.hid (partsAt_end 17134975606245761280)
  have hst := Lib.hid (partsAt_step 17134975606245761280)
  have hln := partsAt_len 17134975606245761280
  have hed := Lib.hid empty_dig
  generalize partsAt 17134975606245761280 = pa at p0 hp15 hst hln
  generalize partsL 17134975606245761280 = pl at hp15 hW
  generalize hEE : (17134975606245761280 : Nat) = EE at hst hed
  clear hEE
  go_enter Try.func19, Try.ntmps19
  go_wp2
  go_loopg [3] 15 (fun gn i wr => ∃ (j : Nat), j ≤ 15 ∧ i = .int .i64 j ∧ gn = 15 - j ∧ Blk wr w.heap.size 87 (pv (pa j)) ∧ Below w.heap.size w wr)
  case atStart =>
    refine ⟨0, by omega, rfl, rfl, ?_, (Below.refl _ _).alloc (Nat.le_refl _) _⟩
    rw [p0.out]
    exact Blk.conv (Blk.new _ _ _) rfl
  case round =>
    obtain ⟨j, hj, rfl, rfl, hB, hb⟩ := hrel
    have hz := hln j hj
    by_cases h15 : j < 15
    · obtain ⟨v, hk⟩ : ∃ v, (pa j)[1 + j]? = some v := ⟨_, List.getElem?_eq_getElem (by omega)⟩
      have h1 := hB.at (1 + j) (pv_get hk)
      have h2 := hB.free (1 + j)
      have hstep := hst.out j h15
      rw [hed.out j h15] at hstep
      have HS := Lib.hid hstep
      clear hk hstep
      go_wp2
      go_roundg (15 - (j + 1))
      case rel =>
        refine ⟨j + 1, by omega, by go_num, rfl, ?_, by (repeat first | with_reducible refine Below.drew ?_ | with_reducible refine below_drewN ?_ _ | with_reducible refine Below.alloc ?_ (by simp only [World.size_alloc, World.size_setCell, World.size_drew, World.heap_drewN]; omega) _ | with_reducible refine Below.setCell ?_ (by dsimp only; omega) _); exact hb⟩
        rw [← HS.out, ← pv_set]
        exact Blk.conv (hB.set (1 + j) _) rfl
      case measure => omega
    · obtain rfl : j = 15 := by omega
      have hp := pv_size (pa 15)
      rw [hz] at hp
      have hr := row87
      rw [← hp] at hr
      rw [hp15.out] at hB hr
      go_wp2_with (first
        | (go_at_call 55; refine (hW _).mono ?_; rintro e w2 ⟨rfl, b2⟩)
        | (refine wpList_load_blk rfl 87 _ rfl w.heap.size rfl hB hr ?_))
      go_ret
      exact ⟨rfl, hb.trans (b2.mono (by have := hb.size; omega))⟩

end Go.Proofs.Ythplnecnagbedaa
