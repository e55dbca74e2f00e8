/- Put of the tree by contract, where the key is there or its leaf has room; conditions: the tree is one, lies in memory, and has had few calls. -/
import Derived.Test.YthplnecnagbedaaTrPut2
namespace Go.Proofs.Ythplnecnagbedaa
open Go.RowKit

theorem putT_len_old {T T' : Tr} {k : ByteArray} {v : Int} {r : Int × Bool × Int} (h : PutT T k v T' r) (hk : ¬ 4096 < k.size) (hh : hasE (entsT T) k = true) : (entsT T').length = (entsT T).length := by
  obtain ⟨u, hu⟩ := get_of_has hh
  rw [h.ents]
  unfold putSpec
  rw [if_neg hk, hu]
  dsimp only
  rw [put_len, if_pos hh]
theorem putT_len_new {T T' : Tr} {k : ByteArray} {v : Int} {r : Int × Bool × Int} (h : PutT T k v T' r) (hk : ¬ 4096 < k.size) (hh : hasE (entsT T) k = false) (hn : (entsT T).length < 4096) : (entsT T').length = (entsT T).length + 1 := by
  rw [h.ents]
  unfold putSpec
  rw [if_neg hk, get_has hh]
  dsimp only
  rw [if_neg (by omega)]
  dsimp only
  rw [putE_len_has hh]
section
variable {B n : Nat} {w w' : World} {M : TrM} {T T1 T2 : Tr} {l : Lf}
theorem put_node (h : TreeAt B w M (T1 ++ l :: T2) n) (hok : NdOk l.nd) (hi : l.nd.ins < 4611686018427387904) (k : ByteArray) (v u : Int) (b : Bool) (e : Int) (hr : (putM l.nd k v).2 = (u, b, e)) :
    Calls Try.prog 26 #[.pointer (some ⟨M.nb l.num, 0, none⟩), .string k, .int .i64 v] w fun en w' => en = .returned (.tuple #[.int .i64 u, .bool b, .int .i64 e]) ∧ TreeAt B w' M (T1 ++ ⟨l.num, l.least, (putM l.nd k v).1⟩ :: T2) n ∧ Chg M.F w w' ∧ w.heap.size ≤ w'.heap.size :=
  (put_any w (M.nb l.num) l.nd hok hi (h.node l (by simp)) k v).mono fun en w' ⟨h1, h2, h3⟩ => by
    rw [hr] at h1
    exact ⟨h1, h.setNode h2 h3, h3.more (fun q hq => .inl (by simp at hq; rw [hq]; exact h.nbF (by simp))), h3.size⟩
theorem tree_to {w2 w3 : World} (hb : Below w.heap.size w w2) (hT : TreeAt B w3 M T n) (hc : Chg M.F w2 w3) : TrTo B w M T n w3 :=
  ⟨M, hT, rfl, fun _ hq => .inl hq, (Chg.of_below hb M.F).trans hc (fun _ hq => .inl hq)⟩
theorem idx_nat (e : T = T1 ++ l :: T2) : T1.length < T.length := by rw [e]; simp
end

set_option maxRecDepth 100000 in
set_option maxHeartbeats 1000000 in
theorem put_old_tr (w : World) (B n : Nat) (M : TrM) (T T1 T2 : Tr) (l : Lf) (ht : TrOk T) (hT : TreeAt B w M T (entsT T).length) (hn : Bnd n T) (hn2 : n ≤ 10000) (k : ByteArray) (v : Int) (hk : ¬ 4096 < k.size) (ha : AtLf T k T1 l T2) (hh : hasE l.nd.ents k = true) :
    Calls Try.prog 43 #[.pointer (some ⟨M.tb, 0, none⟩), .string k, .int .i64 v] w (PutTr B w M T k v) := by
  have hF := find_tr w B _ M T T1 T2 l ht hT (by have := hn.1; omega) k ha
  have hok := ht.ok l ha.mem
  have hG := get_any w (M.nb l.num) l.nd hok (hT.node l ha.mem) k
  obtain ⟨u, hu⟩ := get_of_has hh
  have hgm : getM l.nd k = (u, true) := by unfold getM; rw [hu]
  rw [hgm] at hG
  have hr : (putM l.nd k v).2 = (u, true, 0) := by rw [putM_out hok]; unfold putOut; rw [if_neg hk, hu]
  have hPT := putT_old (v := v) ht ha hk hh
  have hlen := putT_len_old hPT hk (by rw [ha.has ht]; exact hh)
  rw [hr] at hPT
  obtain ⟨b, hb, hblt, _⟩ := hT.look ha.eq
  obtain ⟨c0, c1, c2, c3⟩ := hT.see hb ha.eq
  have hT1 := hT
  rw [ha.eq] at hT1
  have hP : ∀ w2, Below w.heap.size w w2 → _ := fun w2 hb2 => put_node (hT1.below hb2) hok (by have := (hn.2 l ha.mem).1; omega) k v u true 0 hr
  have hidx := idx_lt ha.eq
  have htl := hT.blk.lt
  have hk' : ¬ (4096 : Int) < (k.size : Int) := by omega
  have hsee : ∀ w2, Below w.heap.size w w2 → _ := fun w2 hb2 => (hT.below hb2).see hb ha.eq
  have HT := Lib.hid hT
  have HP := Lib.hid hPT
  have HA := Lib.hid ha
  have HS := Lib.hid hsee
  have HC := Lib.hid hP
  have HL := Lib.hid hlen
  clear hT hT1 hPT ha ht hn hb hh hok hsee hP hlen hr hgm hu
  go_enter Try.func43, Try.ntmps43
  go_upto_region 4 with (go_at_call 63; refine hF.mono ?_; rintro e w' ⟨rfl, rfl⟩)
  go_upto_region 5 with (go_at_call 27; refine hG.mono ?_; rintro e w2 ⟨rfl, b2⟩)
  obtain ⟨d0, d1, d2, d3⟩ := HS.out w2 b2
  clear c0 c1 c2 c3
  go_wp2_with (go_at_call 26; refine (HC.out w2 b2).mono ?_; rintro e w3 ⟨rfl, hT3, hc3, hs3⟩)
  go_ret3
  have hl := HL.out
  refine ⟨_, _, HP.out, rfl, ?_⟩
  rw [hl]
  have e0 : (entsT (T1 ++ l :: T2)).length = (entsT T).length := by rw [← HA.out.eq]
  rw [e0] at hT3
  exact tree_to b2 hT3 hc3

set_option maxRecDepth 100000 in
set_option maxHeartbeats 1000000 in
theorem put_new_tr (w : World) (B n : Nat) (M : TrM) (T T1 T2 : Tr) (l : Lf) (ht : TrOk T) (hT : TreeAt B w M T (entsT T).length) (hn : Bnd n T) (hn2 : n ≤ 10000) (k : ByteArray) (v : Int) (hk : ¬ 4096 < k.size) (ha : AtLf T k T1 l T2) (hh : hasE l.nd.ents k = false) (hf : (entsT T).length < 4096) (hu15 : l.nd.u ≠ 15) :
    Calls Try.prog 43 #[.pointer (some ⟨M.tb, 0, none⟩), .string k, .int .i64 v] w (PutTr B w M T k v) := by
  have hF := find_tr w B _ M T T1 T2 l ht hT (by have := hn.1; omega) k ha
  have hok := ht.ok l ha.mem
  have hG := get_any w (M.nb l.num) l.nd hok (hT.node l ha.mem) k
  rw [getM_no hh] at hG
  have hr := (half_put (v := v) hok hk hh hu15).1
  have hPT := putT_new (v := v) ht ha hk hh hf hu15
  have hlen := putT_len_new hPT hk (by rw [ha.has ht]; exact hh) hf
  rw [hr] at hPT
  obtain ⟨b, hb, hblt, _⟩ := hT.look ha.eq
  obtain ⟨c0, c1, c2, c3⟩ := hT.see hb ha.eq
  have hT1 := hT
  rw [ha.eq] at hT1
  have hP : ∀ w2, Below w.heap.size w w2 → _ := fun w2 hb2 => put_node (hT1.below hb2) hok (by have := (hn.2 l ha.mem).1; omega) k v 0 false 0 hr
  have hidx := idx_lt ha.eq
  have htl := hT.blk.lt
  have hk' : ¬ (4096 : Int) < (k.size : Int) := by omega
  have hf' : ¬ (4096 : Int) ≤ ((entsT T).length : Int) := by omega
  have hf2 : ((entsT T).length : Int) < 4096 := by omega
  have hsee : ∀ w2, Below w.heap.size w w2 → _ := fun w2 hb2 => (hT.below hb2).see hb ha.eq
  have eT : (entsT (T1 ++ l :: T2)).length = (entsT T).length := by rw [← ha.eq]
  rw [eT] at hP
  have HT := Lib.hid hT
  have HP := Lib.hid hPT
  have HA := Lib.hid ha
  have HS := Lib.hid hsee
  have HC := Lib.hid hP
  have HL := Lib.hid hlen
  clear hT hT1 hPT ha ht hn hb hh hok hsee hP hlen hr hf eT
  go_enter Try.func43, Try.ntmps43
  go_upto_region 4 with (go_at_call 63; refine hF.mono ?_; rintro e w' ⟨rfl, rfl⟩)
  go_upto_region 5 with (go_at_call 27; refine hG.mono ?_; rintro e w2 ⟨rfl, b2⟩)
  obtain ⟨d0, d1, d2, d3⟩ := HS.out w2 b2
  clear c0 c1 c2 c3
  go_upto_region 8 with (go_at_call 26; refine (HC.out w2 b2).mono ?_; rintro e w3 ⟨rfl, hT3, hc3, hs3⟩)
  have g3 := hT3.blk.at 2 rfl
  have gf := hT3.blk.free 2
  have HT3 := Lib.hid hT3
  clear d0 d1 d2 d3 hT3
  go_wp2_with fail
  go_ret3
  have hl := HL.out
  refine ⟨_, _, HP.out, rfl, ?_⟩
  rw [hl]
  exact tree_to b2 (HT3.out.setMany ((entsT T).length + 1)) (hc3.setCell (.inl (TreeAt.tbF M)) _)

end Go.Proofs.Ythplnecnagbedaa
