/- works of the tree's laws, grown: each by its contract; conditions: none. -/
import Derived.Test.YthplnecnagbedaaTrWorks
namespace Go.Proofs.Ythplnecnagbedaa
open Go.RowKit

theorem noTr (t : TypeId) (h : (t != 106 && t != 109 && t != 111 && t != 95) = true) : NoTr t := by
  simp only [Bool.and_eq_true, bne_iff_ne, ne_eq] at h
  exact ⟨h.1.1.1, h.1.1.2, h.1.2, h.2⟩
theorem run_S_len {fr tk : ByteArray} {most : Nat} : ∀ (E : List (Lf × ByteArray)) (st : ScS), (runS fr tk most E st).S.length ≤ st.S.length + E.length := by
  intro E
  induction E with
  | nil => exact fun st => Nat.le_refl _
  | cons x E ih =>
    intro st
    unfold runS
    split
    · omega
    · have := ih (stepS fr st x)
      have h2 : (stepS fr st x).S.length ≤ st.S.length + 1 := by
        unfold stepS
        split
        · simp
        · simp
      simp only [List.length_cons]
      omega
theorem scanT_S_len {T : Tr} (ht : TrOk T) (fr tk : ByteArray) (most : Nat) : (scanT T fr tk most).S.length ≤ T.length * 16 := by
  unfold scanT
  have h1 := run_S_len (fr := fr) (tk := tk) (most := most) (evT fr (T.drop (findT T fr))) sc0
  have h2 := evT_len (fr := fr) (T.drop (findT T fr)) (fun l hl => ht.ok l (List.mem_of_mem_drop hl))
  rw [List.length_drop] at h2
  have h3 : sc0.S.length = 0 := rfl
  omega
theorem seen_in {T : Tr} {fr tk : ByteArray} {most : Nat} {st : ScS} (hst : st = scanT T fr tk most) : ∀ s ∈ st.S, ∃ l ∈ T, l.num = s.1 := fun s hs => by
  rw [hst] at hs
  obtain ⟨l, hl, e⟩ := scanT_seen T s hs
  exact ⟨l, hl, by rw [← e]; rfl⟩
set_option maxRecDepth 100000 in
set_option maxHeartbeats 2000000 in
theorem treeWorks_any (w : World) : Calls Try.prog 41 #[] w fun e w' => e = .returned (.bool true) ∧ Below w.heap.size w w' := by
  go_enter Try.func41, Try.ntmps41
  go_upto_region 4 with (go_at_call 40; refine (new_ts _).mono ?_; rintro e w1 ⟨M, T0, rfl, hS0, hE0, b1⟩)
  have hp1 := put_ts hS0 (by omega) kb 1
  have HS0 := Lib.hid hS0
  have HE0 := Lib.hid hE0
  clear hS0 hE0
  go_upto_region 5 with (go_at_call 43; refine hp1.mono ?_; rintro e w2 ⟨T1, M1, r0, r1, r2, hP1, rfl, hS1, hF1⟩)
  have hE1 : entsT T1 = [(kb, 1)] := by rw [hP1.ents, HE0.out, w_s1]
  have hp2 := put_ts hS1 (by omega) kd 2
  have hB1 := hF1.bel HS0.out
  rw [hF1.tb] at hp2
  have HS1 := Lib.hid hS1
  have HE1 := Lib.hid hE1
  have HF1 := Lib.hid hF1
  clear hS1 hE1 hP1 hF1 hp1
  go_upto_region 6 with (go_at_call 43; refine hp2.mono ?_; rintro e w3 ⟨T2, M2, s0, s1, s2, hP2, rfl, hS2, hF2⟩)
  have hE2 : entsT T2 = [(kb, 1), (kd, 2)] := by rw [hP2.ents, HE1.out, w_s2]
  have htb2 : M2.tb = M.tb := hF2.tb.trans HF1.out.tb
  have hB2 := hB1.trans (hF2.bel HS1.out)
  have hc := scan_ts hS2 (by omega) ka kd 9 (by omega) (by omega)
  rw [htb2] at hc
  have HS2 := Lib.hid hS2
  have HE2 := Lib.hid hE2
  clear hS2 hE2 hP2 hF2 hp2
  have hA : (scanT T2 ka kd 9).A = [(kb, 1)] := by rw [scanT_A HS2.out.ok, HE2.out, w_c1]
  have hSl := scanT_S_len HS2.out.ok ka kd 9
  obtain ⟨st, hst⟩ : ∃ st, st = scanT T2 ka kd 9 := ⟨_, rfl⟩
  rw [← hst] at hc hA hSl
  have hSn := seen_in hst
  have hSl2 : st.S.length ≤ 1000000 := by have := HS2.out.bnd.1; omega
  have HST := Lib.hid hst
  have HSN := Lib.hid hSn
  clear hst hSn hSl
  obtain ⟨A, S⟩ := st
  dsimp only at hA hSl2
  subst hA
  go_upto_region 7 with (go_at_call 47; refine hc.mono ?_; rintro e w4 ⟨a8, c8, a9, c9, a10, c10, rfl, o8, o9, o10, b4⟩)
  have hS24 := HS2.out.below b4
  have hv1 := valid_ts hS24 (by omega) a10 c10 S.length S rfl hSl2 (rd3_own o10) HSN.out
  have hval1 : validM T2 S = true := by have h := scanT_valid (fr := ka) (tk := kd) (most := 9) T2; rw [← HST.out] at h; exact h
  rw [htb2, hval1] at hv1
  have HS24 := Lib.hid hS24
  have HO8 := Lib.hid o8
  have HO10 := Lib.hid o10
  have HV1 := Lib.hid hval1
  clear hS24 o8 o9 o10 hval1 hc
  go_upto_region 8 with (go_at_call 49; refine hv1.mono ?_; rintro e w5 ⟨rfl, b5⟩)
  have hS25 := HS24.out.below b5
  have hp3 := put_ts hS25 (by omega) kb 5
  rw [htb2] at hp3
  have HS25 := Lib.hid hS25
  clear hS25 hv1
  go_upto_region 9 with (go_at_call 43; refine hp3.mono ?_; rintro e w6 ⟨T3, M3, t0, t1, t2, hP3, rfl, hS3, hF3⟩)
  have hE3 : entsT T3 = [(kb, 5), (kd, 2)] := by rw [hP3.ents, HE2.out, w_s3]
  have htb3 : M3.tb = M.tb := hF3.tb.trans htb2
  have ho10 := hF3.own HS25.out (own_chg HO10.out (Chg.of_below b5 []) (by simp)) (noTr 118 rfl)
  have ho8 := hF3.own HS25.out (own_chg HO8.out (Chg.of_below b5 []) (by simp)) (noTr 9 rfl)
  have hval2 : validM T3 S = true := by rw [validM_cnt (hP3.turn.same (by rw [hE3, HE2.out]; rfl))]; exact HV1.out
  have hSn3 := hP3.turn.rel.nums_in HSN.out
  have hv2 := valid_ts hS3 (by omega) a10 c10 S.length S rfl hSl2 (rd3_own ho10) hSn3
  rw [htb3, hval2] at hv2
  have hB6 := (b4.mono (B' := w.heap.size) (by have := hB2.size; have := b1.size; omega)).trans ((b5.mono (by have := b4.size; have := hB2.size; have := b1.size; omega)).trans (hF3.bel HS25.out))
  have HREL3 := Lib.hid hP3.turn.rel
  have HS3 := Lib.hid hS3
  have HE3 := Lib.hid hE3
  have HSN3 := Lib.hid hSn3
  clear hS3 hP3 hE3 hF3 hval2 hSn3 hp3
  go_upto_region 10 with (go_at_call 49; refine hv2.mono ?_; rintro e w7 ⟨rfl, b7⟩)
  have hS37 := HS3.out.below b7
  have hp4 := put_ts hS37 (by omega) kc 3
  rw [htb3] at hp4
  have HS37 := Lib.hid hS37
  clear hS37 hv2
  go_upto_region 11 with (go_at_call 43; refine hp4.mono ?_; rintro e w8 ⟨T4, M4, u0, u1, u2, hP4, rfl, hS4, hF4⟩)
  have hE4 : entsT T4 = [(kb, 5), (kc, 3), (kd, 2)] := by rw [hP4.ents, HE3.out, w_s4]
  have htb4 : M4.tb = M.tb := hF4.tb.trans htb3
  have ho10b := hF4.own HS37.out (own_chg ho10 (Chg.of_below b7 []) (by simp)) (noTr 118 rfl)
  have ho8b := hF4.own HS37.out (own_chg ho8 (Chg.of_below b7 []) (by simp)) (noTr 9 rfl)
  have hrel := HREL3.out.trans hP4.turn.rel
  have hval3 : validM T4 S = false := by
    cases hv : validM T4 S with
    | false => rfl
    | true =>
      exfalso
      have h1 := scan_valid (fr := ka) (tk := kd) (most := 9) HS2.out.ok hS4.ok hrel hS4.tree.nums (by rw [← HST.out]; exact hv)
      rw [scanT_A HS2.out.ok, scanT_A hS4.ok, HE2.out, hE4, w_c1, w_c2] at h1
      simp at h1
  have hv3 := valid_ts hS4 (by omega) a10 c10 S.length S rfl hSl2 (rd3_own ho10b) (hP4.turn.rel.nums_in HSN3.out)
  rw [htb4, hval3] at hv3
  obtain ⟨gk, hgk, _, hgl, hgc⟩ := own_at ho8b (by simp)
  have hk0 := hgc 0 (.string kb) rfl
  subst hgk
  have hB8 := hB6.trans ((b7.mono (by have := hB6.size; have := hB2.size; have := b1.size; omega)).trans (hF4.bel HS37.out))
  have HB8 := Lib.hid hB8
  have hkb : (kb.toList == [98]) = true := by unfold kb; rw [ByteArray.toList_eq]; rfl
  clear hS4 hP4 hF4 ho10b ho8b hrel hval3 hgc hp4 ho10 ho8 hB6
  go_wp2_with (go_at_call 49; refine hv3.mono ?_; rintro e w9 ⟨rfl, b9⟩)
  go_ret
  have hz8 := HB8.out.size
  have hz2 := hB2.size
  exact ⟨rfl, ((b1.trans hB2).trans HB8.out).trans (b9.mono (by have := b1.size; omega))⟩

end Go.Proofs.Ythplnecnagbedaa
