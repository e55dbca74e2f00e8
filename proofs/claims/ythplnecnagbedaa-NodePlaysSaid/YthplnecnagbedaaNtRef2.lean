/- Word and Check of the document's package for nodes, each by its contract; conditions: as there. -/
import Derived.Test.YthplnecnagbedaaNtRef
namespace Go.Proofs.Ythplnecnagbedaa
open Go.RowKit

set_option maxRecDepth 100000 in
set_option maxHeartbeats 1000000 in
theorem rword_any (w : World) (B u : Nat) (l : List Nat) (hl : l.length = 15) (hu : u < 16) (hd : ∀ x ∈ l, x < 16) (v : Value) (hO : OwnN B w v l) :
    Calls Try.prog 57 #[.int .i64 u, v] w fun e w' => e = .returned (.int .u64 (wordL u l)) ∧ w = w' := by
  have hlt : ∀ j, j ≤ 15 → undigs (l.drop j) < 16 ^ (15 - j) := fun j hj => by
    have := undigs_lt (l.drop j) (fun x hx => hd x (List.mem_of_mem_drop hx))
    rwa [List.length_drop, hl] at this
  obtain ⟨A, cap, rfl, hcap⟩ := hO.nilv
  rw [hl] at hcap ⊢
  have HO := Lib.hid hO
  clear hO
  go_enter Try.func57, Try.ntmps57
  go_wp2
  go_loopg [5, 6] 15 (fun gn z i wr => ∃ (j : Nat), j ≤ 15 ∧ i = .int .i64 ((j : Int) - 1) ∧ z = .int .u64 (undigs (l.drop j) : Nat) ∧ j = gn ∧ w = wr)
  case atStart => exact ⟨15, by omega, rfl, by rw [List.drop_of_length_le (by omega)]; rfl, rfl, rfl⟩
  case round =>
    obtain ⟨j, hj, rfl, rfl, rfl, rfl⟩ := hrel
    rcases j with _ | j
    · have h0 := hlt 0 (by omega)
      have e : (wordL u l : Nat) = u + 16 * undigs l := rfl
      have HE := Lib.hid e
      rw [List.drop_zero] at h0 ⊢
      generalize undigs l = z at h0 HE
      have h1 : z < 1152921504606846976 := h0
      go_wp2
      go_ret
      exact ⟨ret_int (by rw [HE.out]; first | omega | (simp only [IntKind.wrap_u64]; omega)), rfl⟩
    · have hjl : j < l.length := by omega
      have h0 := hlt (j + 1) (by omega)
      have h1 := hlt j (by omega)
      have hdr : undigs (l.drop j) = l[j] + 16 * undigs (l.drop (j + 1)) := by rw [List.drop_eq_getElem_cons hjl]; rfl
      have hx : l[j] < 16 := hd _ (List.getElem_mem hjl)
      have h2 : undigs (l.drop (j + 1)) < 72057594037927936 := Nat.lt_of_lt_of_le h0 (Nat.pow_le_pow_right (n := 16) (by omega) (show 15 - (j + 1) ≤ 14 by omega))
      obtain ⟨g, cap', e1, hc1, hg1, hg2, c1⟩ := HO.out.at (j := j) (x := l[j]) (by simp [hjl])
      injection e1 with e1 e2 e3
      subst e1 e3
      have HDR := Lib.hid hdr
      generalize l[j] = d at HDR hx c1
      generalize undigs (l.drop (j + 1)) = z at HDR h2
      clear hdr h0 h1
      go_wp2
      go_roundg j
      case rel => exact ⟨j, by omega, by go_num, by rw [HDR.out]; exact congrArg _ (by omega), rfl, rfl⟩
      case measure => omega

theorem Try.info4 : (Try.prog.info? 4).map (fun i => (i.zero, i.size, i.bytes)) = some (some (.bool false), 1, 1) := by kernel_rfl
theorem Try.underlying92 : Try.prog.underlying 92 = some (.slice 4) := by kernel_rfl
theorem make16 (W : World) : (Instr.makeSlice 92 (.int .i64 16) (.int .i64 16)).run Try.prog W = .ok (.slice (some ⟨W.heap.size, 0, none⟩) 16 16) (W.alloc (.cells (seenV []).toArray 4)) := by
  obtain ⟨i0, hi, hz0, hz1, hz2⟩ := info_parts Try.info4
  exact run_makeN (P := Try.prog) 92 4 i0 (.bool false) Try.underlying92 hi hz0 hz1 rfl 16 (by rw [hz2]; omega) (by omega) W

set_option maxRecDepth 100000 in
set_option maxHeartbeats 1000000 in
theorem rcheck_any (w : World) (x : Nat) (hx : x < 18446744073709551616) : Calls Try.prog 22 #[.int .u64 x] w fun e w' => e = .returned (.int .i64 (chkE x)) ∧ Below w.heap.size w w' := by
  have hP := parts_any w x hx
  have hd : ∀ d ∈ slotsL x, d < 16 := digs_lt 15 _
  have hl := slots_len x
  have hu : x % 16 < 16 := Nat.mod_lt _ (by omega)
  have hc : chkE x = if OkL (slotsL x) then 0 else 4 := rfl
  have HC := Lib.hid hc
  clear hc
  generalize slotsL x = l at hP hd hl HC
  generalize chkE x = ce at HC ⊢
  generalize x % 16 = u at hP hu
  go_enter Try.func22, Try.ntmps22
  go_upto_region 4 with (go_at_call 56; refine hP.mono ?_; rintro e w1 ⟨v, rfl, hO, hb⟩; obtain ⟨A, cap, rfl, hcap⟩ := hO.nilv; rw [hl] at hcap ⊢)
  have HO := Lib.hid hO
  clear hO hP
  have z1 := hb.size
  have hmk := make16
  have hse0 := Lib.hid (rfl : seenV [] = seenV [])
  generalize hs0 : (seenV []).toArray = S0 at hmk
  have HS0 := Lib.hid hs0
  clear hs0 hse0
  go_wp2_with fail
  go_loopg [6] 15 (fun gn i wr => ∃ (j : Nat), j ≤ 15 ∧ i = .int .i64 j ∧ gn = 15 - j ∧ OkL (l.take j) ∧ Blk wr w1.heap.size 4 (seenV (l.take j)).toArray ∧ Below w1.heap.size w1 wr)
  case atStart =>
    refine ⟨0, by omega, rfl, rfl, ⟨by simp, by simp⟩, ?_, (Below.refl _ _).alloc (Nat.le_refl _) _⟩
    rw [List.take_zero, HS0.out]
    exact Blk.new _ _ _
  case round =>
    obtain ⟨j, hj, rfl, rfl, hok, hB, hb1⟩ := hrel
    by_cases h15 : j < 15
    · have hjl : j < l.length := by omega
      have hx : l[j] < 16 := hd _ (List.getElem_mem hjl)
      obtain ⟨g, cap', e1, hc1, hg1, hg2, c1⟩ := HO.out.at (j := j) (x := l[j]) (by simp [hjl])
      injection e1 with e1 e2 e3
      subst e1 e3
      have c1' := (hb1.cell (p := ⟨g, j, none⟩) hg2).trans c1
      have c2 := hB.at l[j] (by simpa using seenV_get (l.take j) hx)
      have f2 := hB.free l[j]
      by_cases hbig : l[j] < 15
      · by_cases htw : l[j] ∈ l.take j
        · have hne := okL_twice hjl htw
          have hce : ce = 4 := by rw [HC.out, if_neg hne]
          rw [decide_eq_true htw] at c2
          have HH := Lib.hid hce
          clear hne htw hce
          generalize l[j] = d at *
          go_wp2
          go_ret
          exact ⟨by rw [HH.out]; rfl, hb.trans (hb1.mono z1)⟩
        · have hstep := okL_step hjl hok hbig htw
          have hse := seenV_set (l.take j) hx
          rw [← List.take_succ_eq_append_getElem hjl] at hse
          rw [decide_eq_false htw] at c2
          have HS := Lib.hid (And.intro hstep hse)
          clear htw hstep hse
          generalize l[j] = d at c1 c1' c2 f2 hx hbig HS
          go_wp2
          go_roundg (15 - (j + 1))
          case rel =>
            refine ⟨j + 1, by omega, by go_num, rfl, HS.out.1, ?_, by (repeat first | with_reducible refine Below.drew ?_ | with_reducible refine below_drewN ?_ _ | with_reducible refine Below.alloc ?_ (by simp only [World.size_alloc, World.size_setCell, World.size_drew, World.heap_drewN]; omega) _ | with_reducible refine Below.setCell ?_ (by dsimp only; omega) _); exact hb1⟩
            rw [← HS.out.2]
            exact Blk.conv (hB.set d _) (by simp)
          case measure => omega
      · have hne := okL_big hjl hbig
        have hce : ce = 4 := by rw [HC.out, if_neg hne]
        have HH := Lib.hid hce
        clear hne hce
        generalize l[j] = d at *
        go_wp2
        go_ret
        exact ⟨by rw [HH.out]; rfl, hb.trans (hb1.mono z1)⟩
    · obtain rfl : j = 15 := by omega
      rw [List.take_of_length_le (by omega)] at hok
      have hce : ce = 0 := by rw [HC.out, if_pos hok]
      go_wp2
      go_ret
      exact ⟨by rw [hce]; rfl, hb.trans (hb1.mono z1)⟩

end Go.Proofs.Ythplnecnagbedaa
