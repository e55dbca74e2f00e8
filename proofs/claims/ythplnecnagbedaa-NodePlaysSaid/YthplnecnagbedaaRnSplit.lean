/- The reference's Split by contract; conditions: none. -/
import Derived.Test.YthplnecnagbedaaRnNew
import Derived.Test.YthplnecnagbedaaNdSplit
import Derived.BigQuiet
import Derived.Deep.QuietTactic
namespace Go.Proofs.Ythplnecnagbedaa
open Go.RowKit

def RSplit (w : World) (r kb vb : Nat) (N : Nd) (e : Ending) (w' : World) : Prop :=
  (N.u < 2 ∧ e = .returned (.tuple #[.pointer none, .string ⟨#[]⟩, .int .i64 4]) ∧ Below w.heap.size w w') ∨
  (2 ≤ N.u ∧ ∃ r2 kb2 vb2, (w.heap.size ≤ r2 ∧ w.heap.size ≤ kb2 ∧ w.heap.size ≤ vb2) ∧ e = .returned (.tuple #[.pointer (some ⟨r2, 0, none⟩), .string ((upperM N).getD 0 emp), .int .i64 0]) ∧ RNd w' r kb vb (splitL N) ∧ RNd w' r2 kb2 vb2 (splitR N) ∧ Chg [r, kb, vb] w w')
/-- What holds while the right half is filled and the left is emptied. -/
structure RSpI (w W : World) (r kb vb r2 kb2 vb2 b h m : Nat) (A R : Nd) (U : List ByteArray) (B : Nat) : Prop where
  left : RNd W r kb vb A
  right : RNd W r2 kb2 vb2 R
  key : ∀ j, j < m → W.cell? ⟨b, h + j, none⟩ = some (.string (U.getD j emp))
  chg : Chg [r, kb, vb] w W
  size : B ≤ W.heap.size

set_option maxRecDepth 100000 in
set_option maxHeartbeats 2000000 in
theorem rsplit_any (w : World) (r kb vb : Nat) (N : Nd) (hok : NdOk N) (hi : N.ins < 2305843009213693952) (hsp : N.spl < 2305843009213693952) (hR : RNd w r kb vb N) :
    Calls Try.prog 38 #[.pointer (some ⟨r, 0, none⟩)] w (RSplit w r kb vb N) := by
  have hkl := keysM_len N
  have hu15 := hok.u15
  obtain ⟨u, hu⟩ : ∃ u, u = N.u := ⟨_, rfl⟩
  rw [← hu] at hu15 hkl
  have HU := Lib.hid hu
  have HKL := Lib.hid hkl
  have hk : Calls Try.prog 61 #[.pointer (some ⟨r, 0, none⟩)] w fun e w' => ∃ (a : Option Addr) (k : Nat), e = .returned (.slice a u k) ∧ w'.ownsRow w.heap.size 9 1 (.slice a u k) u ((keysM N).map .string) ∧ Below w.heap.size w w' := by
    have := rall_any w r kb vb N hok hR
    unfold KeysPost OwnS at this
    rw [hkl] at this
    exact this
  have HR := Lib.hid hR
  have HOK := Lib.hid hok
  have hl1 := hR.top.lt
  have hl2 := hR.keys.lt
  have hl3 := hR.vals.lt
  clear hR hok hu hkl
  by_cases h2 : u < 2
  · go_enter Try.func38, Try.ntmps38
    go_wp2_with (go_at_call 61; refine hk.mono ?_; rintro e w2 ⟨a, k, rfl, hO, b2⟩)
    go_ret3
    exact .inl ⟨by rw [← HU.out]; exact h2, rfl, b2⟩
  · have h2' : ¬ ((u : Int) < 2) := by omega
    obtain ⟨h, hh, hh1, hh2⟩ : ∃ h : Nat, ((u : Int) + 1) / 2 = (h : Int) ∧ 1 ≤ h ∧ h < u := ⟨(u + 1) / 2, by omega, by omega, by omega⟩
    have HH := Lib.hid hh
    go_enter Try.func38, Try.ntmps38
    go_upto_region 5 with (first | (go_at_call 34; refine (rnew_any _).mono ?_; rintro e w3 ⟨kb2, vb2, rfl, hR2, q1, q2, q3, b3⟩) | (go_at_call 61; refine hk.mono ?_; rintro e w2 ⟨a, k, rfl, hO, b2⟩))
    obtain ⟨b, ea, hbB, hbl, hbc⟩ := own_at hO (by omega)
    subst ea
    obtain ⟨huk, hk63⟩ := own_cap hO
    go_wp2_with fail
    have hul : (upperM N).length = u - h := by unfold upperM; rw [List.length_drop, HKL.out, ← HU.out]; omega
    have hud : ∀ j, j < u - h → (upperM N).getD j emp = (keysM N).getD (h + j) emp := fun j hj => by
      unfold upperM
      rw [← HU.out, show (u + 1) / 2 = h by omega]
      simp [List.getD, List.getElem?_drop]
    generalize hrg : w3.heap.size - 1 = r2 at hR2 q1 ⊢
    have hb23 := b2.size
    have hR3 := (HR.out.next b2).next b3
    have hw3 : Below w.heap.size w w3 := b2.trans (b3.mono (by omega))
    have hky : ∀ j, j < u - h → w3.cell? ⟨b, h + j, none⟩ = some (.string ((upperM N).getD j emp)) := fun j hj => by
      refine (b3.cell (p := ⟨b, h + j, none⟩) hbl).trans (hbc (h + j) _ ?_)
      rw [hud j hj]
      have : h + j < (keysM N).length := by rw [HKL.out]; omega
      simp [List.getD, this]
    have hz3 := b3.size
    have d1 : b ≠ r := by omega
    have d2 : b ≠ kb := by omega
    have d3 : b ≠ vb := by omega
    have d4 : b ≠ r2 := by omega
    have d5 : b ≠ kb2 := by omega
    have d6 : b ≠ vb2 := by omega
    have hI0 : RSpI w w3 r kb vb r2 kb2 vb2 b h (u - h) N nd0 (upperM N) w3.heap.size := ⟨hR3, hR2, hky, Chg.of_below hw3 _, Nat.le_refl _⟩
    have HI0 := Lib.hid hI0
    have HUL := Lib.hid hul
    have hbz3 : b < w3.heap.size := by omega
    have z1 := hR2.top.lt
    have z2 := hR2.keys.lt
    have z3 := hR2.vals.lt
    have z4 := hR3.top.lt
    clear hR2 hR3 hw3 hky hul hud hbc b2 b3 hO hk hrg hh hI0
    obtain ⟨m, hm⟩ : ∃ m, m = u - h := ⟨_, rfl⟩
    rw [← hm] at HI0 HUL
    have HM := Lib.hid hm
    have hm15 : m ≤ 15 := by omega
    have hm1 : 1 ≤ m := by omega
    have humh : (u : Int) = (h : Int) + (m : Int) := by omega
    obtain ⟨B, hB⟩ : ∃ B, B = w3.heap.size := ⟨_, rfl⟩
    rw [← hB] at HI0 hbz3 hz3 z1 z2 z3 z4
    have HBB := Lib.hid hB
    have HHM := Lib.hid humh
    clear hm hB humh
    rw [HH.out]
    go_loopg [8] m (fun gn i W => ∃ (t : Nat), t ≤ m ∧ i = .int .i64 ((h + t : Nat) : Int) ∧ gn = m - t ∧ RSpI w W r kb vb r2 kb2 vb2 b h m N (putAll N nd0 ((upperM N).take t)) (upperM N) B)
    case atStart => exact ⟨0, Nat.zero_le _, rfl, rfl, HI0.out⟩
    case round =>
      obtain ⟨t, ht, rfl, rfl, hI⟩ := hrel
      by_cases htm : t < m
      · have ck := hI.key t htm
        have hRok : NdOk (putAll N nd0 ((upperM N).take t)) := putAll_ok nd0_ok _
        have hRin : (putAll N nd0 ((upperM N).take t)).ins ≤ 15 := by
          have := putAll_ins N nd0 ((upperM N).take t)
          have h0 : nd0.ins = 0 := rfl
          rw [List.length_take] at this
          omega
        have hts : (upperM N).take (t + 1) = (upperM N).take t ++ [(upperM N).getD t emp] := by
          have : t < (upperM N).length := by rw [HUL.out]; exact htm
          rw [List.take_succ_eq_append_getElem this]; simp [List.getD, this]
        have hsn := putAll_snoc N nd0 ((upperM N).take t) ((upperM N).getD t emp)
        rw [← hts] at hsn
        have HSN := Lib.hid hsn
        have HIk := Lib.hid hI
        have HRok := Lib.hid hRok
        clear hts hsn hI hRok
        generalize putAll N nd0 ((upperM N).take t) = RN at HSN HIk HRok hRin
        generalize (upperM N).getD t emp = key at ck HSN
        have hsz := HIk.out.size
        have hlt1 : ((h + t : Nat) : Int) < (u : Int) := by have := HHM.out; omega
        go_wp2_with (first
          | (go_at_call 35; refine (rput_any _ r2 kb2 vb2 RN HRok.out (by omega) (HIk.out.right.next b5) key (getM N key).1).mono ?_; rintro e w6 ⟨rfl, hR6, hc6⟩)
          | (go_at_call 36; refine (rget_any _ r kb vb N HOK.out HIk.out.left key).mono ?_; rintro e w5 ⟨rfl, b5⟩; have ck5 := (b5.cell (p := ⟨b, h + t, none⟩) (World.block_lt_of_cell? _ _ ck)).trans ck))
        have hI6 : RSpI w w6 r kb vb r2 kb2 vb2 b h m N (putAll N nd0 ((upperM N).take (t + 1))) (upperM N) B := by
          rw [HSN.out]
          have hz5 := b5.size
          have hz6 := hc6.size
          refine ⟨(HIk.out.left.next b5).chg hc6 (by simp; omega) (by simp; omega) (by simp; omega), hR6, fun j hj => ?_, (HIk.out.chg.trans (Chg.of_below b5 []) (by simp)).trans hc6 (fun q hq => .inr (by simp at hq; omega)), by omega⟩
          have c1 := HIk.out.key j hj
          have c2 := (b5.cell (p := ⟨b, h + j, none⟩) (World.block_lt_of_cell? _ _ c1)).trans c1
          exact (World.cell?_of_block (w := w5) (a := ⟨b, h + j, none⟩) (hc6.block b (World.block_lt_of_cell? _ _ c2) (by simp; omega))).trans c2
        go_roundg (m - (t + 1))
        case rel => exact ⟨t + 1, by omega, by go_num, rfl, hI6⟩
        case measure => omega
      · obtain rfl : t = m := by omega
        have hlt1 : ¬ (((h + t : Nat) : Int) < (u : Int)) := by have := HHM.out; omega
        have hLall : putAll N nd0 ((upperM N).take t) = splitR N := by unfold splitR; rw [List.take_of_length_le (by rw [HUL.out]; exact Nat.le_refl _)]
        rw [hLall] at hI
        have hbt0 := backTo_zero N (upperM N)
        have hI2 : RSpI w wr r kb vb r2 kb2 vb2 b h t (backTo N (upperM N) 0) (splitR N) (upperM N) B := by rw [hbt0]; exact hI
        have HI2 := Lib.hid hI2
        clear hI hLall hbt0 hI2 htm
        have hum1 : IntKind.i64.wrap ((u : Int) - 1) = ((h + t - 1 : Nat) : Int) := by rw [IntKind.wrap_i64]; have := HHM.out; omega
        go_wp2_with fail
        go_loopg [11] t (fun gn i W => ∃ (k : Nat), k ≤ t ∧ i = .int .i64 ((h + t - 1 - k : Nat) : Int) ∧ gn = t - k ∧ RSpI w W r kb vb r2 kb2 vb2 b h t (backTo N (upperM N) k) (splitR N) (upperM N) B)
        case atStart => exact ⟨0, Nat.zero_le _, rfl, rfl, HI2.out⟩
        case round =>
          clear HI2
          obtain ⟨k, hk, rfl, rfl, hI⟩ := hrel
          by_cases hkt : k < t
          · have ck := hI.key (t - 1 - k) (by omega)
            have hp : h + (t - 1 - k) = h + t - 1 - k := by omega
            rw [hp] at ck
            have hAok : NdOk (backTo N (upperM N) k) := takeAll_ok HOK.out _
            have hAin : (backTo N (upperM N) k).ins ≤ N.ins + 15 := by
              have := takeAll_ins N ((upperM N).drop ((upperM N).length - k))
              rw [List.length_drop, HUL.out] at this
              unfold backTo
              rw [HUL.out]
              omega
            have hsn := backTo_succ N (upperM N) (k := k) (by rw [HUL.out]; exact hkt)
            rw [HUL.out] at hsn
            have HSN := Lib.hid hsn
            have HIk := Lib.hid hI
            have HAok := Lib.hid hAok
            clear hsn hI hAok hp
            generalize backTo N (upperM N) k = AN at HSN HIk HAok hAin
            generalize (upperM N).getD (t - 1 - k) emp = key at ck HSN
            have hge : ((h : Nat) : Int) ≤ ((h + t - 1 - k : Nat) : Int) := by omega
            have hlt2 : ((h + t - 1 - k : Nat) : Int) < (u : Int) := by have := HHM.out; omega
            have hnx : IntKind.i64.wrap (((h + t - 1 - k : Nat) : Int) - 1) = ((h + t - 1 - (k + 1) : Nat) : Int) := by rw [IntKind.wrap_i64]; have := HHM.out; omega
            generalize h + t - 1 - k = p at *
            have hsz := HIk.out.size
            go_wp2_with (go_at_call 37; refine (rtake_any _ r kb vb AN HAok.out (by omega) HIk.out.left key).mono ?_; rintro e w6 ⟨rfl, hA6, hc6⟩)
            have hI6 : RSpI w w6 r kb vb r2 kb2 vb2 b h t (backTo N (upperM N) (k + 1)) (splitR N) (upperM N) B := by
              rw [HSN.out]
              have hz6 := hc6.size
              refine ⟨hA6, HIk.out.right.chg hc6 (by simp; omega) (by simp; omega) (by simp; omega), fun j hj => ?_, HIk.out.chg.trans hc6 (fun q hq => .inl hq), by omega⟩
              have c1 := HIk.out.key j hj
              exact (World.cell?_of_block (w := wr) (a := ⟨b, h + j, none⟩) (hc6.block b (World.block_lt_of_cell? _ _ c1) (by simp; omega))).trans c1
            go_roundg (t - (k + 1))
            case rel => exact ⟨k + 1, by omega, rfl, rfl, hI6⟩
            case measure => omega
          · obtain rfl : k = t := by omega
            have hall : backTo N (upperM N) k = takeAll N (upperM N) := by
              have := backTo_all N (upperM N)
              rw [HUL.out] at this
              exact this
            rw [hall] at hI
            have hspl := takeAll_spl N (upperM N)
            have ck := hI.key 0 (by omega)
            rw [Nat.add_zero] at ck
            have c4 : wr.cell? ⟨r, 4, none⟩ = some (.int .i64 (N.spl : Nat)) := by rw [← hspl]; exact hI.left.top.at 4 rfl
            have f4 := hI.left.top.free 4
            have hng : ¬ (((h : Nat) : Int) ≤ ((h + k - 1 - k : Nat) : Int)) := by omega
            have hhu : (h : Int) < (u : Int) := by omega
            have HIk := Lib.hid hI
            have HSP := Lib.hid hspl
            clear hall hI hspl hlt1 hum1
            obtain ⟨x, hx⟩ : ∃ x, (upperM N).getD 0 emp = x := ⟨_, rfl⟩
            rw [hx] at ck
            have HX := Lib.hid hx
            clear hx
            generalize h + k - 1 - k = p at *
            have ckS : ∀ v, (wr.setCell ⟨r, 4, none⟩ v).cell? ⟨b, h, none⟩ = some (.string x) := fun v => (World.cell?_of_block (w := wr) (a := ⟨b, h, none⟩) ((((Chg.refl [r] wr).setCell (.inl (by simp)) _).block b (World.block_lt_of_cell? _ _ ck) (by simpa using d1)))).trans ck
            go_upto_region 16 with fail
            go_quiet (fail)
            go_wp2_with fail
            go_ret3
            refine .inr ⟨by rw [← HU.out]; omega, r2, kb2, vb2, ⟨by omega, by omega, by omega⟩, by rw [HX.out]; rfl, ?_, ?_, ((HIk.out.chg.setCell (.inl (by simp)) _).drewN _)⟩
            · have e1 := HIk.out.left.rk
              have e2 := HIk.out.left.rv
              exact ⟨(HIk.out.left.top.set 4 (.int .i64 ((N.spl + 1 : Nat) : Int))).drewN _, (HIk.out.left.keys.chg ((Chg.refl [r] wr).setCell (.inl (by simp)) _) (by simpa using e1.symm)).drewN _, (HIk.out.left.vals.chg ((Chg.refl [r] wr).setCell (.inl (by simp)) _) (by simpa using e2.symm)).drewN _⟩
            · exact (HIk.out.right.chg ((Chg.refl [r] wr).setCell (.inl (by simp)) _) (by simp; omega) (by simp; omega) (by simp; omega)).drewN _

end Go.Proofs.Ythplnecnagbedaa
