/- The tree's iterator by contract: what it hands out, in order; conditions: the tree lies in memory, the body leaves it alone. -/
import Derived.Test.YthplnecnagbedaaTrLift
import Derived.Shelf.Abstract
import Derived.OwnWalkIn
import Derived.TacticsInMore
import Derived.LoopNIn
import Derived.LoopIn
namespace Go.Proofs.Ythplnecnagbedaa
open Go.RowKit Go.Shelf

attribute [local go_sem] Oper.semAt_some

theorem emp_toList : emp.toList = [] := by rw [ByteArray.toList_eq]; rfl
theorem range_succ' (n : Nat) : List.range (n + 1) = List.range n ++ [n] := List.range_succ
/-- The event of a number. -/
def evAt (E : List (Lf × ByteArray)) (l0 : Lf) (i : Nat) : Lf × ByteArray := E.getD i (l0, emp)
theorem evAt_mid {A R : List (Lf × ByteArray)} {x : Lf × ByteArray} {l0 : Lf} : evAt (A ++ x :: R) l0 A.length = x := by simp [evAt, List.getD]
theorem evAt_range (E : List (Lf × ByteArray)) (l0 : Lf) {c : Nat} (hc : c ≤ E.length) : (List.range c).map (evAt E l0) = E.take c := by
  apply List.ext_getElem
  · simp; omega
  · intro i h1 h2
    simp at h1 h2
    have : i < E.length := by omega
    simp [evAt, List.getD, this]
/-- Events of the first t keys of a leaf. -/
def keyEv (fr : ByteArray) (l : Lf) (ks : List ByteArray) : List (Lf × ByteArray) := (ks.filter fun k => !bl k fr && decide (k ≠ emp)).map fun k => (l, k)
theorem keyEv_yes {fr : ByteArray} {l : Lf} {ks : List ByteArray} {k : ByteArray} (h : (!bl k fr && decide (k ≠ emp)) = true) : keyEv fr l (ks ++ [k]) = keyEv fr l ks ++ [(l, k)] := by
  unfold keyEv
  rw [List.filter_append, List.map_append, List.filter_cons, h]
  rfl
theorem keyEv_no {fr : ByteArray} {l : Lf} {ks : List ByteArray} {k : ByteArray} (h : (!bl k fr && decide (k ≠ emp)) = false) : keyEv fr l (ks ++ [k]) = keyEv fr l ks := by
  unfold keyEv
  rw [List.filter_append, List.map_append, List.filter_cons, h]
  simp
theorem evT_take_succ {fr : ByteArray} {Ls : Tr} {q : Nat} (hq : q < Ls.length) : evT fr (Ls.take (q + 1)) = evT fr (Ls.take q) ++ (Ls[q], emp) :: keyEv fr Ls[q] (keysM Ls[q].nd) := by
  rw [List.take_succ_eq_append_getElem hq]
  unfold evT
  rw [List.flatMap_append]
  simp [evL, keyEv]
theorem evT_split {fr : ByteArray} {Ls : Tr} {q : Nat} (hq : q < Ls.length) : evT fr Ls = evT fr (Ls.take q) ++ (Ls[q], emp) :: (keyEv fr Ls[q] (keysM Ls[q].nd) ++ evT fr (Ls.drop (q + 1))) := by
  have e : Ls = Ls.take q ++ Ls[q] :: Ls.drop (q + 1) := by rw [← List.drop_eq_getElem_cons hq, List.take_append_drop]
  have : evT fr Ls = evT fr (Ls.take q ++ Ls[q] :: Ls.drop (q + 1)) := by rw [← e]
  rw [this]
  unfold evT
  rw [List.flatMap_append, List.flatMap_cons]
  simp [evL, keyEv]
theorem keyEv_split {fr : ByteArray} {l : Lf} {ks : List ByteArray} {t : Nat} (ht : t < ks.length) (h : (!bl ks[t] fr && decide (ks[t] ≠ emp)) = true) : ∃ R, keyEv fr l ks = keyEv fr l (ks.take t) ++ (l, ks[t]) :: R := by
  have e : ks = ks.take t ++ ks[t] :: ks.drop (t + 1) := by rw [← List.drop_eq_getElem_cons ht, List.take_append_drop]
  refine ⟨keyEv fr l (ks.drop (t + 1)), ?_⟩
  have : keyEv fr l ks = keyEv fr l (ks.take t ++ ks[t] :: ks.drop (t + 1)) := by rw [← e]
  rw [this]
  unfold keyEv
  rw [List.filter_append, List.map_append, List.filter_cons, h]
  rfl

theorem from_any (w : World) (tb : Nat) (k : ByteArray) : Calls Try.prog 65 #[.pointer (some ⟨tb, 0, none⟩), .string k] w fun e w' => e = .returned (.func (.func 80) #[] #[.pointer (some ⟨w.heap.size, 0, none⟩), .pointer (some ⟨w.heap.size + 1, 0, none⟩)]) ∧ (w.alloc (.cells #[.pointer (some ⟨tb, 0, none⟩)] 58)).alloc (.cells #[.string k] 9) = w' := by
  go_enter Try.func65, Try.ntmps65
  go_wp2
  go_ret
  exact ⟨rfl, rfl⟩

set_option maxRecDepth 100000 in
set_option maxHeartbeats 4000000 in
theorem iter_in (n : Nat) (hn : 2 ≤ n) (B nn : Nat) (M : TrM) (T : Tr) (ht : TrOk T) (hm : T.length ≤ 1000000) (fr : ByteArray) (l0 : Lf) (L : List Nat) (bt bk : Nat) (l : Nat) (J Jx : List Nat → World → Prop) (W : World)
    (hT : TreeAt B W M T nn) (hbt : Blk W bt 58 #[.pointer (some ⟨M.tb, 0, none⟩)]) (hbk : Blk W bk 9 #[.string fr]) (hL : ∀ c ∈ L, c < W.heap.size) (hLF : ∀ q ∈ M.F, q ∉ L) (_hLt : bt ∉ L) (hLk : bk ∉ L) (hR : ∀ k, ¬ Rch L W k)
    (hJ : AbidesFrom W.heap.size J) (hY : ∀ pre x W1, J pre W1 → pre.length < (evT fr (T.drop (findT T fr))).length → YieldAt Fence.wide (n - 1) Try.prog l #[.pointer (some ⟨M.lb (evAt (evT fr (T.drop (findT T fr))) l0 x).1.num, 0, none⟩), .string (evAt (evT fr (T.drop (findT T fr))) l0 x).2] W1 fun e W' =>
      (e = .returned (.bool true) ∧ J (pre ++ [x]) W' ∧ ScK L W1 W') ∨ (e = .returned (.bool false) ∧ Jx (pre ++ [x]) W')) (h0 : J [] W) :
    CallsIn Fence.wide n Try.prog 80 #[.func (.yield l) #[] #[], .pointer (some ⟨bt, 0, none⟩), .pointer (some ⟨bk, 0, none⟩)] W fun e W' => (∃ v, e = .returned v) ∧
      ((∃ xs, xs = List.range (evT fr (T.drop (findT T fr))).length ∧ J xs W') ∨ (∃ pre, (∃ c, c ≤ (evT fr (T.drop (findT T fr))).length ∧ pre = List.range c) ∧ Jx pre W')) := by
  obtain ⟨T1, l1, T2, ha, hf⟩ := findT_at ht fr
  have hF : ∀ q, Calls Try.prog 63 #[.pointer (some ⟨M.tb, 0, none⟩), .string fr] (W.drewN q) fun e w' => e = .returned (.int .i64 (T1.length : Nat)) ∧ w' = W.drewN q := fun q => (find_tr (W.drewN q) B _ M T T1 T2 l1 ht (hT.drewN q) hm fr ha).mono fun _ _ (h : _ ∧ _) => And.intro h.1 h.2.symm
  obtain ⟨b, hb, hblt, _⟩ := hT.look ha.eq
  obtain ⟨c0, c1, c2, c3⟩ := hT.see hb ha.eq
  have ct := hbt.at 0 rfl
  have ck := hbk.at 0 rfl
  have hidx := idx_lt ha.eq
  have hidn := idx_nat ha.eq
  have hcap := own_cap hT.rowL
  rw [hf] at hY ⊢
  obtain ⟨Ls, hLs⟩ : ∃ Ls, Ls = T.drop T1.length := ⟨_, rfl⟩
  rw [← hLs] at hY ⊢
  obtain ⟨E, hE⟩ : ∃ E, E = evT fr Ls := ⟨_, rfl⟩
  rw [← hE] at hY ⊢
  have hLl : Ls.length = T.length - T1.length := by rw [hLs, List.length_drop]
  have HLS := Lib.hid hLs
  have HE := Lib.hid hE
  have HT := Lib.hid hT
  have HY := Lib.hid hY
  have HL := Lib.hid hL
  have HLF := Lib.hid hLF
  have HR := Lib.hid hR
  have HJ := Lib.hid hJ
  have HBK := Lib.hid hbk
  have HLL := Lib.hid hLl
  have HOK := Lib.hid ht
  have HLK := Lib.hid hLk
  have HCB := Lib.hid hb
  have hkc : ¬ (M.k = T1.length) := by omega
  have hii : (T1.length : Int) ≤ (T.length : Int) := by omega
  have hin : T1.length ≤ T.length := by omega
  clear hLs hE hT hY hL hLF hR hJ hbk hLl ht hLk hbt ha hf hb _hLt
  generalize T1.length = i0 at *
  refine callsIn_of_wp Try.func80 rfl trivial ?_ rfl
  simp only [Try.ntmps80, List.size_toArray, List.length_cons, List.length_nil, Nat.reduceAdd, Nat.reduceSub, Array.replicate_succ, Array.replicate_zero, List.push_toArray, List.append_toArray, List.nil_append, List.cons_append]
  refine wpIn_wide.2 ?_
  go_upto_region 0 with fail
  go_quiet ((go_at_call 63; exact Calls.quiet_of_same (hF _)))
  go_wp2_with fail
  refine (wpIn_wide (n := n)).1 ?_
  have hg0 : W.grownBy (W.drewN nq) none := ⟨rfl, rfl, rfl, Nat.le_refl _, fun _ _ _ => rfl⟩
  have hJ0 := HJ.out [] W _ none h0 hg0 (fun r e => by cases e)
  have hS0 : ScK L W (W.drewN nq) := ⟨rfl, rfl, rfl, Nat.le_refl _, fun _ _ h _ _ _ => h, fun _ h => .inl h⟩
  have HJ0 := Lib.hid hJ0
  have HS0 := Lib.hid hS0
  clear hJ0 hS0 hg0 h0 c0 c1 c2 c3 ct ck
  obtain ⟨m, hmm⟩ : ∃ m, m = T.length - i0 := ⟨_, rfl⟩
  have hm2 : m ≤ T.length := by omega
  have HMM := Lib.hid hmm
  have hkm : m ≤ M.k - i0 := by omega
  rw [← hmm]
  clear hmm
  have hLm : Ls.length = m := by rw [HLL.out, HMM.out]
  have HLM := Lib.hid hLm
  clear hLm
  gi_loopw [17] (fun i wr => ∃ q : Nat, q ≤ m ∧ i = .int .i64 q ∧ J (List.range (evT fr (Ls.take q)).length) wr ∧ ScK L W wr) (fun i _ => m - (intOf i).toNat)
  case atStart => exact ⟨0, Nat.zero_le _, rfl, by simpa [evT] using HJ0.out, HS0.out⟩
  case round =>
    clear HJ0 HS0
    obtain ⟨q, hq, rfl, hJq, hsq⟩ := hrel
    obtain ⟨wo, rfl⟩ : ∃ wo, wo = wr := ⟨_, rfl⟩
    have HJQ := Lib.hid hJq
    have HSQ := Lib.hid hsq
    clear hJq hsq
    by_cases hlt : q < m
    · have hql : q < Ls.length := by rw [HLM.out]; exact hlt
      have hTw := HT.out.sck HSQ.out HLF.out HR.out
      have eT : T = T.take (i0 + q) ++ Ls[q] :: T.drop (i0 + q + 1) := by
        have h2 : i0 + q < T.length := by have := HMM.out; omega
        have h3 : Ls[q] = T[i0 + q] := by simp [HLS.out]
        rw [h3, ← List.drop_eq_getElem_cons h2, List.take_append_drop]
      have hmem : Ls[q] ∈ T := by rw [eT]; simp
      obtain ⟨_, d1, d2, _⟩ := hTw.see HCB.out eT
      have htl : (T.take (i0 + q)).length = i0 + q := by rw [List.length_take]; have := HMM.out; omega
      rw [htl] at d1
      have hsp := evT_split (fr := fr) hql
      rw [← HE.out] at hsp
      have hsuc := evT_take_succ (fr := fr) hql
      have hokl := HOK.out.ok _ hmem
      have hev : evAt E l0 (evT fr (Ls.take q)).length = (Ls[q], emp) := by rw [hsp]; exact evAt_mid
      have hlen : (evT fr (Ls.take q)).length < E.length := by rw [hsp]; simp
      have hy := HY.out (List.range (evT fr (Ls.take q)).length) (evT fr (Ls.take q)).length wo HJQ.out (by rw [List.length_range]; exact hlen)
      rw [hev, ← range_succ'] at hy
      obtain ⟨fn, tmps, assign, body, hyr, hRd⟩ := hy
      change (Instr.yield l #[.pointer (some ⟨M.lb Ls[q].num, 0, none⟩), .string ⟨#[]⟩]).run Try.prog wo = _ at hyr
      have hqm : (q : Int) < (m : Int) := by omega
      have HLE := Lib.hid (show (evT fr (Ls.take q)).length + 1 ≤ E.length by omega)
      have hdlt : M.lb Ls[q].num < wo.heap.size := (hTw.leaf _ hmem).lt
      have HEV := Lib.hid hev
      have HSP := Lib.hid hsp
      have HSU := Lib.hid hsuc
      have HTW := Lib.hid hTw
      have HME := Lib.hid hmem
      have HOL := Lib.hid hokl
      clear hev hsp hsuc hTw eT htl hlen hmem hokl
      generalize Ls[q] = lf at *
      gi_wp2
      refine ⟨fun _ => by omega, hRd.mono ?_⟩
      rintro e W3 (⟨rfl, hJ3, hk3⟩ | ⟨rfl, hJx3⟩)
      · have hs3 := HSQ.out.trans hk3
        have hT3 := HT.out.sck hs3 HLF.out HR.out
        have hl3 := hT3.leaf lf HME.out
        have hn3 := hT3.node lf HME.out
        have e2 := hl3.at 2 rfl
        have hK := keys_any W3 (M.nb lf.num) lf.nd HOL.out hn3
        have HS3 := Lib.hid hs3
        have HJ3 := Lib.hid hJ3
        clear hs3 hJ3 hk3 hT3 hl3 hn3 d1 d2
        obtain ⟨ks, hks⟩ : ∃ ks, ks = keysM lf.nd := ⟨_, rfl⟩
        rw [← hks] at hK
        have hsp := HSP.out
        have hsu := HSU.out
        rw [← hks] at hsp hsu
        have HSP2 := Lib.hid hsp
        have HSU2 := Lib.hid hsu
        clear hks hsp hsu HSP HSU
        obtain ⟨c, hc⟩ : ∃ c, c = (evT fr (Ls.take q)).length := ⟨_, rfl⟩
        have hj3 := HJ3.out
        rw [← hc] at hj3
        have HJ3c := Lib.hid hj3
        have HCC := Lib.hid hc
        clear hj3 hc HJ3
        gi_wp2_with (refine ⟨trivial, fun _ => by omega, ?_⟩; gi_at_call 29; refine (callsIn_wide.2 hK).mono ?_; rintro e W4 ⟨ka, kk, rfl, hO, b4⟩)
        have hu1 := own_cap hO
        have hLW3 : ∀ x ∈ L, x < W3.heap.size := fun x hx => Nat.lt_of_lt_of_le (HL.out x hx) HS3.out.size
        have hsb := ScK.below hLW3 b4
        have hs4 := HS3.out.trans hsb
        have hJ4 := HJ.out _ W3 W4 none HJ3c.out ⟨b4.os, b4.tape, b4.output, b4.size, fun k hk _ => b4.block k hk⟩ (fun r e => by cases e)
        have HB4 := Lib.hid b4
        have HO := Lib.hid hO
        have HS4 := Lib.hid hs4
        have HJ4 := Lib.hid hJ4
        obtain ⟨u, hu⟩ : ∃ u, u = ks.length := ⟨_, rfl⟩
        have HU := Lib.hid hu
        rw [← hu] at hu1 ⊢
        clear b4 hO hs4 hJ4 hsb hu hLW3
        gi_loopw [31] (fun i wr => ∃ t : Nat, t ≤ u ∧ i = .int .i64 t ∧ J (List.range (c + 1 + (keyEv fr lf (ks.take t)).length)) wr ∧ ScK L W4 wr) (fun i _ => u - (intOf i).toNat)
        case atStart => exact ⟨0, Nat.zero_le _, rfl, by simpa [keyEv] using HJ4.out, ScK.refl _ _⟩
        case round =>
          obtain ⟨t, htu, rfl, hJt, hst⟩ := hrel
          obtain ⟨w5, rfl⟩ : ∃ w5, w5 = wr := ⟨_, rfl⟩
          have HJT := Lib.hid hJt
          have HST := Lib.hid hst
          clear hJt hst
          by_cases htl : t < u
          · have htk : t < ks.length := by rw [← HU.out]; exact htl
            obtain ⟨kb, hka, hkb1, hkb2, hkbc⟩ := own_at HO.out (by omega)
            subst hka
            have hkc : W4.cell? ⟨kb, t, none⟩ = some (.string ks[t]) := hkbc t _ (by simp [htk])
            have hkr : ¬ Rch L W4 kb := fun hr => by
              obtain ⟨x, hx, v, hv, hvk⟩ := hr
              have hv3 : W3.cell? ⟨x, 0, none⟩ = some v := (HB4.out.cell (p := ⟨x, 0, none⟩) (Nat.lt_of_lt_of_le (HL.out x hx) HS3.out.size)).symm.trans hv
              rcases HS3.out.rch kb ⟨x, hx, v, hv3, hvk⟩ with h1 | ⟨_, h1⟩
              · exact HR.out kb h1
              · omega
            have hkL : kb ∉ L := fun hx => by have := HL.out kb hx; have := HS3.out.size; omega
            have k5 : w5.cell? ⟨kb, t, none⟩ = some (.string ks[t]) := by
              rcases HO.out.2 with ⟨e, _⟩ | ⟨g, cap, cur, e, _, hg, _⟩
              · cases e
              · injection e with e
                injection e with e
                injection e with e
                subst e
                have hb5 : Blk w5 kb 9 cur := HST.out.blk (show Blk W4 kb 9 cur from hg) hkL hkr
                rw [← hkc, hb5.cell, Blk.cell (show Blk W4 kb 9 cur from hg)]
            have hk5 := ((HS4.out.trans HST.out).blk HBK.out HLK.out (HR.out bk)).at 0 rfl
            have htki : (t : Int) < (u : Int) := by omega
            have htk2 : ks.take (t + 1) = ks.take t ++ [ks[t]] := List.take_succ_eq_append_getElem htk
            have hspl : (!bl ks[t] fr && decide (ks[t] ≠ emp)) = true → ∃ R, E = (evT fr (Ls.take q) ++ (lf, emp) :: keyEv fr lf (ks.take t)) ++ (lf, ks[t]) :: R := fun h => by
              obtain ⟨R, hR⟩ := keyEv_split (l := lf) htk h
              refine ⟨R ++ evT fr (Ls.drop (q + 1)), ?_⟩
              rw [HSP2.out, hR]
              simp
            have HSPL := Lib.hid hspl
            have HTK2 := Lib.hid htk2
            clear hkc hkr hkL hkbc hspl htk2
            generalize ks[t] = key at *
            cases hpass : (!bl key fr && decide (key ≠ emp)) with
            | true =>
              obtain ⟨R, hER⟩ := HSPL.out hpass
              have hap : (evT fr (Ls.take q) ++ (lf, emp) :: keyEv fr lf (ks.take t)).length = c + 1 + (keyEv fr lf (ks.take t)).length := by rw [HCC.out]; simp; omega
              have hev : evAt E l0 (c + 1 + (keyEv fr lf (ks.take t)).length) = (lf, key) := by rw [← hap, hER]; exact evAt_mid
              have hlen : c + 1 + (keyEv fr lf (ks.take t)).length < E.length := by rw [← hap, hER]; simp
              have hnext : c + 1 + (keyEv fr lf (ks.take (t + 1))).length = c + 1 + (keyEv fr lf (ks.take t)).length + 1 := by rw [HTK2.out, keyEv_yes hpass]; simp; omega
              have hy := HY.out (List.range (c + 1 + (keyEv fr lf (ks.take t)).length)) (c + 1 + (keyEv fr lf (ks.take t)).length) w5 HJT.out (by rw [List.length_range]; exact hlen)
              rw [hev, ← range_succ', ← hnext] at hy
              obtain ⟨fn2, tmps2, assign2, body2, hyr2, hRd2⟩ := hy
              have HLE2 := Lib.hid (show c + 1 + (keyEv fr lf (ks.take (t + 1))).length ≤ E.length by omega)
              have hp := hpass
              simp only [Bool.and_eq_true, Bool.not_eq_true', decide_eq_true_eq] at hp
              have hp1 : Op.bytesLess key.toList fr.toList = false := hp.1
              have hp2 : key.toList.isEmpty = false := by
                cases hh : key.toList with
                | nil => exact absurd (ba_ext (by rw [hh, emp_toList])) hp.2
                | cons a x => rfl
              clear hpass hER hap hev hlen hnext hp
              gi_wp2
              refine ⟨fun _ => by omega, hRd2.mono ?_⟩
              rintro e W6 (⟨rfl, hJ6, hk6⟩ | ⟨rfl, hJx6⟩)
              · gi_wp2
                go_roundw
                case rel => exact ⟨t + 1, by omega, by go_num, hJ6, HST.out.trans hk6⟩
                case measure => simp [intOf]; omega
              · gi_wp2
                refine bodyPost_ret (results_none rfl _ _ _) rfl ?_
                exact ⟨⟨_, rfl⟩, .inr ⟨_, ⟨_, HLE2.out, rfl⟩, hJx6⟩⟩
            | false =>
              have hnext : J (List.range (c + 1 + (keyEv fr lf (ks.take (t + 1))).length)) w5 := by rw [HTK2.out, keyEv_no hpass]; exact HJT.out
              have HNX := Lib.hid hnext
              clear hnext HTK2 HSPL
              cases hb : bl key fr with
              | true =>
                have hp1 : Op.bytesLess key.toList fr.toList = true := hb
                clear hpass hb
                gi_wp2
                refine ⟨fun _ h => (by cases h), ?_⟩
                gi_wp2
                go_roundw
                case rel => exact ⟨t + 1, by omega, by go_num, HNX.out, HST.out⟩
                case measure => simp [intOf]; omega
              | false =>
                have hp1 : Op.bytesLess key.toList fr.toList = false := hb
                have hp2 : key.toList.isEmpty = true := by
                  rw [hb] at hpass
                  simp at hpass
                  rw [hpass, emp_toList]; rfl
                clear hpass hb
                gi_wp2
                refine ⟨fun _ h => (by cases h), ?_⟩
                gi_wp2
                go_roundw
                case rel => exact ⟨t + 1, by omega, by go_num, HNX.out, HST.out⟩
                case measure => simp [intOf]; omega
          · obtain rfl : t = u := by omega
            have hjn : J (List.range (evT fr (Ls.take (q + 1))).length) w5 := by
              have h1 := HJT.out
              rw [List.take_of_length_le (by rw [← HU.out]; exact Nat.le_refl _)] at h1
              have h2 : (evT fr (Ls.take (q + 1))).length = c + 1 + (keyEv fr lf ks).length := by rw [HSU2.out, HCC.out]; simp; omega
              rw [h2]; exact h1
            have hsn := HS4.out.trans HST.out
            have HJN := Lib.hid hjn
            have HSN := Lib.hid hsn
            clear hjn hsn
            gi_wp2
            go_roundw
            case rel => exact ⟨q + 1, by omega, by go_num, HJN.out, HSN.out⟩
            case measure => simp [intOf]; omega
      · gi_wp2
        refine bodyPost_ret (results_none rfl _ _ _) rfl ?_
        exact ⟨⟨_, rfl⟩, .inr ⟨_, ⟨_, HLE.out, rfl⟩, hJx3⟩⟩
    · obtain rfl : q = m := by omega
      have hfin := HJQ.out
      rw [List.take_of_length_le (by rw [HLM.out]; exact Nat.le_refl _), ← HE.out] at hfin
      gi_wp2
      go_end0
      exact ⟨⟨_, rfl⟩, .inl ⟨_, rfl, hfin⟩⟩

end Go.Proofs.Ythplnecnagbedaa
