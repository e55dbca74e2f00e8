/- The walk of the law WordsRaise: a cell that tasks raise is raised once for each that has stopped; conditions: as what came in reads. -/
import Derived.Test.YtlcgighhiacnpaaWdOpen
import Derived.Test.YtlcgighhiacnpaaWdRaisePure
namespace Go.Proofs.Ytlcgighhiacnpaa
open Go.RowKit

theorem Try.info43 : (Try.prog.info? 43).map (fun i => (i.zero, i.size, i.bytes)) = some (some (.slice none 0 0), 1, 24) := by kernel_rfl

def raisingCells : Array Value := #[.int .i64 4, .int .i64 0, .int .i64 0, .int .i64 0, .int .i64 3, .int .i64 1, .int .i64 0, .int .i64 1, .int .i64 6, .int .i64 0, .int .i64 1, .int .i64 0, .int .i64 7, .int .i64 0, .int .i64 0, .int .i64 0]
set_option maxRecDepth 100000 in
theorem raising_any (w : World) : Calls Try.prog 19 #[.int .i64 0] w fun e w' => e = .returned (.slice (some ⟨w.heap.size, 0, none⟩) 4 4) ∧ w.alloc (.cells raisingCells 50) = w' := by
  go_enter Try.func19, Try.ntmps19
  go_wp2
  go_ret
  exact ⟨rfl, rfl⟩
theorem raise_rdI {w : World} {B b : Nat} (h : Blk w b 50 raisingCells) (hb : b < B) : RdI w B (some ⟨b, 0, none⟩) raisingL := by
  intro k hk
  have : k = 0 ∨ k = 1 ∨ k = 2 ∨ k = 3 := by simp [raisingL] at hk; omega
  rcases this with rfl | rfl | rfl | rfl
  · exact ⟨b, 0, rfl, hb, h.at 0 rfl, h.at 1 rfl, h.at 2 rfl, h.at 3 rfl⟩
  · exact ⟨b, 0, rfl, hb, h.at 4 rfl, h.at 5 rfl, h.at 6 rfl, h.at 7 rfl⟩
  · exact ⟨b, 0, rfl, hb, h.at 8 rfl, h.at 9 rfl, h.at 10 rfl, h.at 11 rfl⟩
  · exact ⟨b, 0, rfl, hb, h.at 12 rfl, h.at 13 rfl, h.at 14 rfl, h.at 15 rfl⟩

/-- Tasks of the call's own, all of them raising. -/
structure TsOwn (B : Nat) (wr : World) (a : Option Addr) (k : Nat) (bs : List Nat) : Prop where
  own : wr.ownsRow B 43 1 (.slice a bs.length k) bs.length (bs.map fun b => .slice (some ⟨b, 0, none⟩) 4 4)
  blk : ∀ b ∈ bs, Blk wr b 50 raisingCells
theorem TsOwn.rd {B : Nat} {wr : World} {a : Option Addr} {k : Nat} {bs : List Nat} (h : TsOwn B wr a k bs) : RdT wr wr.heap.size a (List.replicate bs.length raisingL) := by
  intro t ht
  rw [List.length_replicate] at ht
  have e : (List.replicate bs.length raisingL).getD t [] = raisingL := by simp [List.getD, ht]
  rw [e]
  obtain ⟨b, e1, _, hb, hc⟩ := own_rd h.own t (.slice (some ⟨bs[t], 0, none⟩) 4 4) (by simp [ht])
  have hk := h.blk bs[t] (List.getElem_mem ht)
  exact ⟨b, 0, some ⟨bs[t], 0, none⟩, 4, e1, hb, by rw [Nat.zero_add]; exact hc, by decide, by decide, raise_rdI hk hk.lt⟩
theorem TsOwn.grown {B B' : Nat} {wr w' : World} {a : Option Addr} {k : Nat} {bs : List Nat} {e : TypeId} {z n : Nat} {v : Value} {xs : List Value} (h : TsOwn B wr a k bs) (ho : wr.ownsRow B' e z v n xs) (he : e ≠ 43 ∧ e ≠ 50) (hg : wr.grownBy w' v.ownBlock) : TsOwn B w' a k bs := by
  have hc : Chg v.ownBlock.toList wr w' := Chg.of_grown hg (fun g e => .inl (by simp [e]))
  refine ⟨own_chg h.own hc (fun q hq hm => own_own ho h.own he.1 q (by simpa using hm) hq), fun b hb => (h.blk b hb).chg hc (fun hm => ?_)⟩
  have hm : v.ownBlock = some b := by simpa using hm
  exact own_ne ho (h.blk b hb) he.2 hm.symm
theorem TsOwn.alloc {B : Nat} {wr : World} {a : Option Addr} {k : Nat} {bs : List Nat} (h : TsOwn B wr a k bs) (o : Obj) : TsOwn B (wr.alloc o) a k bs := ⟨h.own.alloc o, fun b hb => (h.blk b hb).alloc o⟩
theorem TsOwn.more {B : Nat} {wr w' : World} {a a' : Option Addr} {k k' : Nat} {bs : List Nat} {b : Nat} (h : TsOwn B wr a k bs) (hb : Blk wr b 50 raisingCells) (hg : wr.grownBy w' (Value.slice a bs.length k).ownBlock)
    (ho : w'.ownsRow B 43 1 (.slice a' (bs.length + 1) k') (bs.length + 1) ((bs ++ [b]).map fun b => .slice (some ⟨b, 0, none⟩) 4 4)) : TsOwn B w' a' k' (bs ++ [b]) := by
  refine ⟨by simpa using ho, fun q hq => ?_⟩
  have hq' : Blk wr q 50 raisingCells := by
    rcases List.mem_append.1 hq with hq | hq
    · exact h.blk q hq
    · simp at hq; subst hq; exact hb
  exact hq'.grown hg (own_ne h.own hq' (by decide))

def raisePick (M : Nat) (x : Int) : Int := ((u64 x % M : Nat) : Int)

set_option maxRecDepth 100000 in
set_option maxHeartbeats 2000000 in
theorem wordsRaise_any (w : World) (n0 : Int) (_hn : (Lit.int .i64 n0).wf = true) (pa : Option Addr) (pn pc : Nat) (P : List Int) (hP : P.length = pn) (hlp : pn ≤ 9223372036854775807) (hrp : RdN w w.heap.size pa P) :
    Calls Try.prog 5 #[.int .i64 n0, .slice pa pn pc] w fun e w' => e = .returned (.bool true) ∧ Below w.heap.size w w' := by
  obtain ⟨i0, hi, hz0, hz1, hz2⟩ := info_parts Try.info3
  have HI := Lib.hid hi
  clear hi
  obtain ⟨i1, hi, hy0, hy1, hy2⟩ := info_parts Try.info43
  have HJ := Lib.hid hi
  clear hi
  have hw := works_any
  have hra := raising_any
  have uw := u64_wrap n0
  have ul := u64_lt n0
  generalize u64 n0 = m0 at uw ul
  go_enter Try.func5, Try.ntmps5
  go_upto_region 5 with (first
    | (go_at_call 18; refine (hw _).mono ?_; rintro e w2 ⟨rfl, b2⟩))
  obtain ⟨M, hM, hM1, hM6⟩ : ∃ M : Nat, 1 + (m0 : Int) % 6 = (M : Int) ∧ 1 ≤ M ∧ M ≤ 6 := ⟨1 + m0 % 6, by omega, by omega, by omega⟩
  rw [hM]
  have HB2 := Lib.hid b2
  have HRP := Lib.hid hrp
  have HP := Lib.hid hP
  clear hM uw ul b2 hw hrp hP
  go_wp2_with fail
  go_loopg [5, 22] M (fun gn v i wr => ∃ (bs : List Nat) (a : Option Addr) (k : Nat), bs.length ≤ M ∧ i = .int .i64 bs.length ∧ gn = M - bs.length ∧ v = .slice a bs.length k ∧ TsOwn w.heap.size wr a k bs ∧ Below w.heap.size w wr)
  case atStart => exact ⟨[], none, 0, Nat.zero_le _, rfl, rfl, rfl, ⟨World.ownsRow_nil _ _ _ _, by simp⟩, HB2.out⟩
  case round =>
    clear HB2
    obtain ⟨bs, a, k, hbs, rfl, rfl, rfl, ht, hb⟩ := hrel
    have hbz := hb.size
    have HT := Lib.hid ht
    have HB := Lib.hid hb
    clear ht hb
    by_cases hlt : bs.length < M
    · go_wp2_with (first
        | (at_builtin; refine wpList_append_to rfl (.tmp 24) (.tmp 26) 22 rfl w.heap.size 43 i1 (.slice none 0 0) 1 24 Try.underlying22 HJ.out hy0 hy1 hy2 rfl (by decide) _ bs.length _ rfl ((HT.out.alloc _).alloc _).own (some ⟨wr.heap.size + 1, 0, none⟩) 1 1 [.slice (some ⟨wr.heap.size, 0, none⟩) 4 4] rfl rfl (news_blk (Blk.new' _ 43 _ (by simp))) (by intro u hu; simp at hu; subst hu; rfl) (bs.length + 1) rfl ((bs ++ [wr.heap.size]).map fun b => .slice (some ⟨b, 0, none⟩) 4 4) (by simp) (by unfold maxLen; omega) (by omega) (Nat.le_trans hbz (by simp; omega)) ?_; intro a7 k7 w7 hown7 hgr7)
        | (go_at_call 19; refine (hra _).mono ?_; rintro e w3 ⟨rfl, rfl⟩))
      go_roundg (M - (bs.length + 1))
      case rel =>
        have h1 : Below w.heap.size w ((wr.alloc (.cells raisingCells 50)).alloc (.cells #[.slice (some ⟨wr.heap.size, 0, none⟩) 4 4] 43)) := (HB.out.alloc hbz _).alloc (by simp; omega) _
        exact ⟨bs ++ [wr.heap.size], a7, k7, by simp; omega, by simp, by simp, by simp, ((HT.out.alloc _).alloc _).more ((Blk.new wr 50 _).alloc _) hgr7 hown7, below_grown h1 hgr7 (by simp; omega) (below_own HT.out.own)⟩
      case measure => omega
    · obtain ⟨L, hL⟩ : ∃ L, L = bs.length := ⟨_, rfl⟩
      obtain rfl : M = L := by omega
      rw [← hL]
      have HL := Lib.hid hL
      clear hL hlt hbs
      go_wp2_with fail
      have hm1 : (1 : Int) ≤ (M : Int) := by omega
      go_loopg [6, 7] pn (fun gn v i wr => ∃ (t : Nat) (b : Option Addr) (c : Nat), t ≤ pn ∧ t ≤ 500 ∧ i = .int .i64 t ∧ gn = pn - t ∧ v = .slice b t c ∧ wr.ownsRow w.heap.size 3 1 (.slice b t c) t (((P.take t).map (raisePick M)).map (.int .i64)) ∧ TsOwn w.heap.size wr a k bs ∧ Below w.heap.size w wr)
      case atStart => exact ⟨0, none, 0, Nat.zero_le _, Nat.zero_le _, rfl, rfl, rfl, by simpa using World.ownsRow_nil _ _ _ _, HT.out, HB.out⟩
      case round =>
        clear HT HB
        obtain ⟨t, b, c, htp, ht5, rfl, rfl, rfl, hown, ht, hb⟩ := hrel
        have hbz := hb.size
        have HO := Lib.hid hown
        have HT := Lib.hid ht
        have HB := Lib.hid hb
        clear hown ht hb
        by_cases hgo : t < pn ∧ t < 500
        · obtain ⟨h1, h2⟩ := hgo
          obtain ⟨bp, op, e1, hbp, hcp0⟩ := HRP.out t (by rw [HP.out]; exact h1)
          subst e1
          have hcp := (HB.out.cell (p := ⟨bp, _, none⟩) hbp).trans hcp0
          clear hcp0
          have htk : P.take (t + 1) = P.take t ++ [P.getD t 0] := by rw [List.take_succ_eq_append_getElem (by rw [HP.out]; exact h1)]; simp [List.getD, HP.out, h1]
          have hrp0 : raisePick M (P.getD t 0) = (u64 (P.getD t 0) : Int) % (M : Int) := rfl
          have HTK := Lib.hid htk
          have HR0 := Lib.hid hrp0
          clear htk hrp0
          generalize P.getD t 0 = x at hcp HTK HR0
          have uw := u64_wrap x
          have ul := u64_lt x
          generalize u64 x = ux at uw ul HR0
          have hq0 : 0 ≤ (ux : Int) % (M : Int) := Int.emod_nonneg _ (by omega)
          have hq1 : (ux : Int) % (M : Int) < 6 := Int.lt_of_lt_of_le (Int.emod_lt_of_pos _ (by omega)) (by omega)
          go_wp2_with (at_builtin; refine wpList_append_to rfl (.tmp 39) (.tmp 49) 24 rfl w.heap.size 3 i0 (.int .i64 0) 1 8 Try.underlying24 HI.out hz0 hz1 hz2 rfl (by decide) _ t _ rfl (HO.out.alloc _) (some ⟨wr.heap.size, 0, none⟩) 1 1 [.int .i64 ((ux : Int) % (M : Int))] rfl rfl (news_blk (Blk.new _ 3 _)) (by intro u hu; simp at hu; subst hu; rfl) (t + 1) rfl (((P.take (t + 1)).map (raisePick M)).map (.int .i64)) (by rw [HTK.out, List.map_append, List.map_append, List.map_singleton, List.map_singleton, HR0.out]) (by unfold maxLen; omega) (by omega) (Nat.le_trans hbz (by simp)) ?_; intro a7 k7 w7 hown7 hgr7)
          go_roundg (pn - (t + 1))
          case rel => exact ⟨t + 1, a7, k7, by omega, by omega, by go_num, rfl, rfl, hown7, (HT.out.alloc _).grown (HO.out.alloc _) (by decide) hgr7, below_grown (HB.out.alloc hbz _) hgr7 (by simp; omega) (below_own HO.out)⟩
          case measure => omega
        · have hPl : (P.take t).length = t := by rw [List.length_take, HP.out]; omega
          have hq : ∀ x ∈ (P.take t).map (raisePick M), 0 ≤ x ∧ x < (M : Int) := fun x hx => by
            obtain ⟨y, _, rfl⟩ := List.mem_map.1 hx
            unfold raisePick
            have := Nat.mod_lt (u64 y) (show 0 < M by omega)
            omega
          obtain ⟨R, kk, hrun, hcells, hdl, hcnt, hkM, hst⟩ := raise_run M ⟨hM1, hM6⟩ _ hq (by rw [List.length_map, hPl]; omega)
          obtain ⟨C, rg, dn, stp⟩ := R
          dsimp only at hcells hdl hcnt hst
          subst hcells
          have hB3 : Below w.heap.size w (wr.alloc (.cells #[.int .u64 7] 38)) := HB.out.alloc hbz _
          have htr := ((HT.out.alloc (.cells #[.int .u64 7] 38)).rd)
          rw [← HL.out] at htr
          have hr3 := run_open (wr.alloc (.cells #[.int .u64 7] 38)) a (some ⟨wr.heap.size, 0, none⟩) b M k 1 1 t c (List.replicate M raisingL) [7] ((P.take t).map (raisePick M)) (by simp) rfl (by rw [List.length_map, hPl]) ⟨by omega, by omega, by omega⟩ htr
            (fun j hj => by
              have : j = 0 := by simp at hj; omega
              subst this
              exact ⟨wr.heap.size, 0, rfl, by simp, (Blk.new wr 38 #[.int .u64 7]).at 0 rfl, by decide⟩) (OwnN.rd' (HO.out.alloc _)) hrun
          have HC := Lib.hid hcnt
          have HS := Lib.hid hst
          clear hrun hcnt hst htr hPl hq
          have hcase : (((t : Int) < (pn : Int)) ∧ ¬ ((t : Int) < 500)) ∨ ¬ ((t : Int) < (pn : Int)) := by omega
          have hk0 : ¬ (7 + (kk : Int) < 7) := by omega
          rcases hcase with ⟨hc1, hc2⟩ | hc1
          all_goals
            go_upto_region 15 with (go_at_call 13; refine hr3.mono ?_; rintro e w4 ⟨ac, kc, ar, kr, ad, kd, rfl, hR, b4⟩)
            have hf := idleF_new (R := ⟨[7 + kk], rg, dn, stp⟩) hB3 b4 hR
            have hs3 : w.heap.size ≤ w4.heap.size := Nat.le_trans hB3.size b4.size
            dsimp only at hf
            rw [hdl] at hf
            generalize hW : w4.alloc (.cells #[.slice ac [7 + kk].length kc, .slice ar rg.length kr, .slice ad M kd, .int .i64 stp] 34) = w5 at hf ⊢
            generalize hG : w4.heap.size = g at hf hs3 ⊢
            clear hW hG hR b4 hr3
            have x0 := hf.box.at 0 rfl
            have x2 := hf.box.at 2 rfl
            obtain ⟨b0, e0, _, hb0, y0⟩ := own_rd hf.rep.cells.1 0 (.int .u64 ((7 + kk : Nat) : Int)) rfl
            subst e0
            have hcast : ((7 + kk : Nat) : Int) = 7 + (kk : Int) := by omega
            rw [hcast] at y0
            clear hcast
            have HF := Lib.hid hf
            clear hf
            go_wp2_with fail
            go_loopg [10, 83] M (fun gn v i wr => ∃ t : Nat, t ≤ M ∧ i = .int .i64 t ∧ gn = M - t ∧ v = .int .i64 ((dn.take t).count true : Nat) ∧ wr = w5)
            case atStart => exact ⟨0, Nat.zero_le _, rfl, rfl, rfl, rfl⟩
            case round =>
              obtain ⟨q, hqM, rfl, rfl, rfl, rfl⟩ := hrel
              have hcl : (dn.take q).count true ≤ q := Nat.le_trans List.count_le_length (by rw [List.length_take]; omega)
              by_cases hqlt : q < M
              · have hdn : wr.ownsRow w.heap.size 4 1 (.slice ad M kd) M (dn.map .bool) := by
                  have := HF.out.rep.done
                  dsimp only at this
                  rwa [hdl] at this
                obtain ⟨b2, e2, _, hb2, yq⟩ := own_rd hdn q (.bool (dn.getD q false)) (by simp [List.getD, hdl, hqlt])
                subst e2
                have htk : dn.take (q + 1) = dn.take q ++ [dn.getD q false] := by rw [List.take_succ_eq_append_getElem (by omega)]; simp [List.getD, hdl, hqlt]
                have HTK := Lib.hid htk
                clear htk
                cases hd : dn.getD q false with
                | true =>
                  rw [hd] at yq HTK
                  clear hd
                  generalize hcn : (dn.take q).count true = cn at hcl ⊢
                  have HCN := Lib.hid hcn
                  clear hcn
                  go_wp2_with fail
                  go_roundg (M - (q + 1))
                  case rel => exact ⟨q + 1, by omega, by go_num, rfl, by rw [HTK.out, List.count_append, HCN.out]; go_num, rfl⟩
                  case measure => omega
                | false =>
                  rw [hd] at yq HTK
                  clear hd
                  go_wp2_with fail
                  go_roundg (M - (q + 1))
                  case rel => exact ⟨q + 1, by omega, by go_num, rfl, by rw [HTK.out, List.count_append]; rfl, rfl⟩
                  case measure => omega
              · obtain rfl : q = M := by omega
                have hct : (dn.take q).count true = dn.count true := by rw [List.take_of_length_le (by omega)]
                rw [hct] at hcl ⊢
                have hcc := HC.out
                clear hct
                generalize dn.count true = cn at hcc hcl ⊢
                have x0 := HF.out.box.at 0 rfl
                go_wp2_with fail
                go_ret
                exact ⟨ret_bool (decide_eq_true (by omega)), HF.out.below⟩

end Go.Proofs.Ytlcgighhiacnpaa
