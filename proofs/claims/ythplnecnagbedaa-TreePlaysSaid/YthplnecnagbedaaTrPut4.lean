/- Put of the tree by contract, where a leaf is split, the key on the left; conditions: the tree is one, lies in memory, and has had few calls. -/
import Derived.Test.YthplnecnagbedaaTrPut3
namespace Go.Proofs.Ythplnecnagbedaa
open Go.RowKit

set_option maxRecDepth 100000 in
set_option maxHeartbeats 2000000 in
theorem put_split_left (w : World) (B n : Nat) (M : TrM) (T T1 T2 : Tr) (l : Lf) (ht : TrOk T) (hT : TreeAt B w M T (entsT T).length) (hn : Bnd n T) (hn2 : n ≤ 10000) (k : ByteArray) (v : Int) (hk : ¬ 4096 < k.size) (ha : AtLf T k T1 l T2) (hh : hasE l.nd.ents k = false) (hf : (entsT T).length < 4096) (hu15 : l.nd.u = 15) (hbl : bl k ((upperM l.nd).getD 0 emp) = true) :
    Calls Try.prog 43 #[.pointer (some ⟨M.tb, 0, none⟩), .string k, .int .i64 v] w (PutTr B w M T k v) := by
  have hF := find_tr w B _ M T T1 T2 l ht hT (by have := hn.1; omega) k ha
  have hok := ht.ok l ha.mem
  have hG := get_any w (M.nb l.num) l.nd hok (hT.node l ha.mem) k
  rw [getM_no hh] at hG
  have hpm : putM l.nd k v = (l.nd, 0, false, 120) := by unfold putM; rw [if_neg hk, if_neg (by rw [hh]; simp), if_pos hu15]
  have hr : (putM l.nd k v).2 = (0, false, 120) := by rw [hpm]
  have hpT := (putT_split (v := v) ht ha hk hh hf hu15).1 hbl
  have hlen := putT_len_new hpT hk (by rw [ha.has ht]; exact hh) hf
  obtain ⟨hu1, hu2⟩ := half_u hok hu15
  obtain ⟨hhl, hhr⟩ := half_has hok hh
  have hr2 := (half_put (v := v) (splitL_ok hok) hk hhl (by omega)).1
  rw [hr2] at hpT
  obtain ⟨b, hb, hblt, _⟩ := hT.look ha.eq
  obtain ⟨c0, c1, c2, c3⟩ := hT.see hb ha.eq
  have hT1 := hT
  rw [ha.eq] at hT1
  have eT : (entsT (T1 ++ l :: T2)).length = (entsT T).length := by rw [← ha.eq]
  rw [eT] at hT1
  have hnl := hn.2 l ha.mem
  have hP : ∀ w2, Below w.heap.size w w2 → _ := fun w2 hb2 => put_node (hT1.below hb2) hok (by omega) k v 0 false 120 hr
  rw [hpm] at hP
  dsimp only at hP
  have hidx := idx_lt ha.eq
  have htl := hT.blk.lt
  have hk' : ¬ (4096 : Int) < (k.size : Int) := by omega
  have hf' : ¬ (4096 : Int) ≤ ((entsT T).length : Int) := by omega
  have hf2 : ((entsT T).length : Int) < 4096 := by omega
  have hsee : ∀ w2, Below w.heap.size w w2 → _ := fun w2 hb2 => (hT.below hb2).see hb ha.eq
  obtain ⟨m, hm⟩ : ∃ m, m = (upperM l.nd).getD 0 emp := ⟨_, rfl⟩
  have hsp : ∀ W, TreeAt B W M (T1 ++ l :: T2) (entsT T).length → Calls Try.prog 31 #[.pointer (some ⟨M.nb l.num, 0, none⟩)] W fun e w' => ∃ r, W.heap.size ≤ r ∧ e = .returned (.tuple #[.pointer (some ⟨r, 0, none⟩), .string m, .int .i64 0]) ∧ Blk w' (M.nb l.num) 95 (ndCells (splitL l.nd)) ∧ Blk w' r 95 (ndCells (splitR l.nd)) ∧ Chg [M.nb l.num] W w' := fun W hW =>
    (split_any W (M.nb l.num) l.nd hok (by omega) (by omega) (hW.node l (by simp))).mono fun e w' h => by
      rcases h with ⟨hc, _⟩ | ⟨_, r, g1, g2, g3, g4, g5⟩
      · omega
      · exact ⟨r, g1, by rw [hm]; exact g2, g3, g4, g5⟩
  have hlenT : (T1 ++ l :: T2).length = T.length := by rw [← ha.eq]
  have hTl : T.length ≤ 10001 := by have := hn.1; omega
  have hFlt : ∀ q ∈ M.F, q < w.heap.size := fun q hq => hT.lt hq
  have hge : B ≤ w.heap.size := by have := hT.base.1; omega
  have hil : (splitL l.nd).ins < 4611686018427387904 := by have h1 := splitL_ins' (N := l.nd) (by omega); have h2 := splitR_ins hok; omega
  have hokL := splitL_ok hok
  have hokR := splitR_ok l.nd
  have hsee3 : ∀ W, TreeAt B W M (T1 ++ l :: T2) (entsT T).length → _ := fun W hW => hW.see hb rfl
  have HT := Lib.hid hT
  have HP := Lib.hid hpT
  have HA := Lib.hid ha
  have HS := Lib.hid hsee
  have HS3 := Lib.hid hsee3
  have HC := Lib.hid hP
  have HL := Lib.hid hlen
  have HSP := Lib.hid hsp
  have HLT := Lib.hid hlenT
  have HFL := Lib.hid hFlt
  have HU := Lib.hid hu15
  have HR2 := Lib.hid hr2
  clear hT hT1 hpT ha ht hn hb hh hok hsee hP hlen hr hf eT hpm hsp hlenT hFlt hnl hu15 hhl hhr hu1 hu2 hsee3 hr2
  rw [← hm] at hbl
  have HM := Lib.hid hm
  clear hm
  have h1 : Op.bytesLess k.toList m.toList = true := hbl
  clear hbl
  go_enter Try.func43, Try.ntmps43
  go_upto_region 4 with (go_at_call 63; refine hF.mono ?_; rintro e w' ⟨rfl, rfl⟩)
  go_upto_region 5 with (go_at_call 27; refine hG.mono ?_; rintro e w2 ⟨rfl, b2⟩)
  obtain ⟨d0, d1, d2, d3⟩ := HS.out w2 b2
  clear c0 c1 c2 c3 hF hG
  go_upto_region 9 with (go_at_call 26; refine (HC.out w2 b2).mono ?_; rintro e w3 ⟨rfl, hT3, hc3, hs3⟩)
  obtain ⟨e0, e1, e2, e3⟩ := HS3.out w3 hT3
  rw [HLT.out] at e0
  have HT3 := Lib.hid hT3
  clear d0 d1 d2 d3 hT3
  go_upto_region 10 with (go_at_call 31; refine (HSP.out w3 HT3.out).mono ?_; rintro e w4 ⟨r, hrw, rfl, hL4, hR4, hc4⟩)
  have hT4 := HT3.out.setNode hL4 hc4
  have hb2s := b2.size
  have hrF : r ∉ M.F := fun hq => by have := HFL.out r hq; omega
  have hT4l : (T1 ++ ⟨l.num, l.least, splitL l.nd⟩ :: T2).length = T.length := by rw [← HLT.out]; simp
  have hgr := grow_tr w4 B _ M _ hT4 (by rw [hT4l]; omega) (T1.length + 1) (by rw [hT4l]; omega) m r (splitR l.nd) hR4 hrF (by omega)
  have hc4F : Chg M.F w w4 := ((Chg.of_below b2 M.F).trans hc3 (fun _ hq => .inl hq)).trans hc4 (fun q hq => .inl (by simp at hq; rw [hq]; exact HT3.out.nbF (by simp)))
  have HC4 := Lib.hid hc4F
  have hs4 := hc4F.size
  have HRW := Lib.hid hrw
  clear e0 e1 e2 e3 hL4 hR4 hc4 hT4 hc4F hrF
  have hcast : ((T1.length + 1 : Nat) : Int) = (T1.length : Int) + 1 := by omega
  rw [hcast] at hgr
  clear hcast
  go_upto_region 13 with (go_at_call 62; refine hgr.mono ?_; rintro e w5 ⟨rfl, M5, hT5, htb5, hF5, hc5⟩)
  have eT5 : (T1 ++ ⟨l.num, l.least, splitL l.nd⟩ :: T2).take (T1.length + 1) ++ ⟨(T1 ++ ⟨l.num, l.least, splitL l.nd⟩ :: T2).length, m, splitR l.nd⟩ :: (T1 ++ ⟨l.num, l.least, splitL l.nd⟩ :: T2).drop (T1.length + 1) = T1 ++ ⟨l.num, l.least, splitL l.nd⟩ :: ⟨T.length, m, splitR l.nd⟩ :: T2 := by
    rw [hT4l]
    have q1 : (T1 ++ ⟨l.num, l.least, splitL l.nd⟩ :: T2).take (T1.length + 1) = T1 ++ [⟨l.num, l.least, splitL l.nd⟩] := by
      rw [List.take_append, List.take_of_length_le (by omega)]
      have : T1.length + 1 - T1.length = 1 := by omega
      rw [this]; rfl
    have q2 : (T1 ++ ⟨l.num, l.least, splitL l.nd⟩ :: T2).drop (T1.length + 1) = T2 := by
      rw [List.drop_append, List.drop_of_length_le (by omega)]
      have : T1.length + 1 - T1.length = 1 := by omega
      rw [this]; rfl
    rw [q1, q2]; simp
  rw [eT5] at hT5
  have hlen5 : (T1 ++ ⟨l.num, l.least, splitL l.nd⟩ :: ⟨T.length, m, splitR l.nd⟩ :: T2).length = T.length + 1 := by rw [← HLT.out]; simp; omega
  have HL5 := Lib.hid hlen5
  obtain ⟨b5, hb5, hblt5, _⟩ := hT5.look (T1 := T1) (l := (⟨l.num, l.least, splitL l.nd⟩ : Lf)) (T2 := (⟨T.length, m, splitR l.nd⟩ :: T2)) rfl
  obtain ⟨f0, f1, f2, f3⟩ := hT5.see (T1 := T1) (l := (⟨l.num, l.least, splitL l.nd⟩ : Lf)) (T2 := (⟨T.length, m, splitR l.nd⟩ :: T2)) hb5 rfl
  rw [hlen5] at f0
  rw [htb5] at f0 f3
  have hP5 := put_node (T1 := T1) (l := (⟨l.num, l.least, splitL l.nd⟩ : Lf)) (T2 := (⟨T.length, m, splitR l.nd⟩ :: T2)) hT5 hokL hil k v 0 false 0 HR2.out
  have HT5 := Lib.hid hT5
  have HTB := Lib.hid htb5
  have HF5 := Lib.hid hF5
  have HC5 := Lib.hid hc5
  have hidx5 : ((T1).length : Int) < (T.length : Int) + 1 := by omega
  clear hT5 htb5 hF5 hc5 eT5 hlen5 hb5 hblt5
  go_upto_region 14 with (go_at_call 26; refine hP5.mono ?_; rintro e w6 ⟨rfl, hT6, hc6, hs6⟩)
  have g3 := hT6.blk.at 2 rfl
  have gf := hT6.blk.free 2
  rw [HTB.out] at g3 gf
  have HT6 := Lib.hid hT6
  clear f0 f1 f2 f3 hT6 hP5
  go_wp2_with fail
  go_ret3
  refine ⟨_, _, HP.out, rfl, ?_⟩
  rw [HL.out]
  have hfin := HT6.out.setMany ((entsT T).length + 1)
  rw [HTB.out] at hfin
  have e6 : cutT T1 l T2 (putM (splitL l.nd) k v).1 (splitR l.nd) = T1 ++ ⟨((⟨l.num, l.least, splitL l.nd⟩ : Lf)).num, ((⟨l.num, l.least, splitL l.nd⟩ : Lf)).least, (putM ((⟨l.num, l.least, splitL l.nd⟩ : Lf)).nd k v).1⟩ :: (⟨T.length, m, splitR l.nd⟩ :: T2) := by unfold cutT; rw [HLT.out, HM.out]
  rw [e6]
  have hrw2 := HRW.out
  have hsz := HC4.out.size
  have hb2s := b2.size
  refine ⟨M5, hfin, HTB.out, fun q hq => ?_, ((HC4.out.trans HC5.out (fun _ hq => .inl hq)).trans hc6 (fun q hq => ?_)).setCell (.inl (TreeAt.tbF M)) _⟩
  · rcases HF5.out q hq with h | h | h
    · exact .inl h
    · right; omega
    · right; omega
  · rcases HF5.out q hq with h | h | h
    · exact .inl h
    · right; omega
    · right; omega

end Go.Proofs.Ythplnecnagbedaa
