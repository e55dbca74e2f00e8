/- The law TreeUnseen by contract: it returns true, whatever the acts; conditions: the acts read. -/
import Derived.Test.YthplnecnagbedaaTrKeep
import Derived.Deep.DeepCutAuto
import Derived.Deep.CutBlock
namespace Go.Proofs.Ythplnecnagbedaa
open Go.RowKit

def UnQ (b : Nat) (a8 : Option Addr) (c8 : Nat) (a10 : Option Addr) (c10 : Nat) (st : ScS) (p : Nat) (cs : Array Value) (w : World) : Prop := SeenQ b a8 c8 a10 c10 st w ∧ Blk w p 69 cs
theorem keep_un (b : Nat) (a8 : Option Addr) (c8 : Nat) (a10 : Option Addr) (c10 : Nat) (st : ScS) (p : Nat) (cs : Array Value) : KeepQ (UnQ b a8 c8 a10 c10 st p cs) := (keep_seen b a8 c8 a10 c10 st).and (keep_blk p 69 cs (noTr 69 rfl))

set_option maxRecDepth 100000 in
set_option maxHeartbeats 4000000 in
theorem treeUnseen_any (w : World) (aA : Option Addr) (nA cA : Nat) (A : List ActT) (hA : A.length = nA) (hl1 : nA ≤ 9223372036854775807) (rA : RdT w w.heap.size aA A) (k0 : Int) (fr tk : ByteArray) (v0 : Int)
    (aM : Option Addr) (nM cM : Nat) (L : List ActT) (hL : L.length = nM) (_hl2 : nM ≤ 9223372036854775807) (rL : RdT w w.heap.size aM L) :
    Calls Try.prog 10 #[.slice aA nA cA, .agg #[.int .i64 k0, .string fr, .string tk, .int .i64 v0], .slice aM nM cM] w fun e w' => e = .returned (.bool true) ∧ Below w.heap.size w w' := by
  have HL := Lib.hid hL
  have RL := Lib.hid rL
  have hG : ∀ W, Below w.heap.size w W → Calls Try.prog 48 #[.slice aA nA cA] W (GrownP W) := fun W hW => by
    refine grown_any W aA nA cA A hA hl1 fun k hk => ?_
    obtain ⟨b, off, e, hb, r⟩ := (rA.below hW) k hk
    exact ⟨b, off, e, Nat.lt_of_lt_of_le hb hW.size, r⟩
  have HG := Lib.hid hG
  clear hL rL hG hA rA
  go_enter Try.func10, Try.ntmps10
  go_upto_region 3 with (go_at_call 41; refine (treeWorks_any _).mono ?_; rintro e w1 ⟨rfl, b1⟩)
  have hbx1 := (Blk.new w 69 #[.int .i64 k0, .string fr, .string tk, .int .i64 v0]).below b1 (Blk.new _ _ _).lt
  have hB1 : Below w.heap.size w w1 := ((Below.refl _ w).alloc (Nat.le_refl _) _).trans (b1.mono (Nat.le_of_lt (Blk.new w 69 #[.int .i64 k0, .string fr, .string tk, .int .i64 v0]).lt))
  have hG1 := HG.out w1 hB1
  clear HG
  go_upto_region 6 with (go_at_call 48; refine hG1.mono ?_; rintro e w2 ⟨M, T, rfl, hS, b2⟩)
  have hbx2 := hbx1.below b2 hbx1.lt
  have hB2 := hB1.trans (b2.mono hB1.size)
  have cx1 := hbx2.at 1 rfl
  have cx2 := hbx2.at 2 rfl
  have cx3 := hbx2.at 3 rfl
  have hA30 := amongT v0 30 w2 (by omega) (by omega)
  obtain ⟨m0, hm0⟩ : ∃ m0 : Nat, v0 % 30 = (m0 : Int) := ⟨(v0 % 30).toNat, by omega⟩
  have hm30 : m0 < 30 := by omega
  rw [hm0] at hA30
  have hsc := scan_ts hS (by omega) fr tk (1 + m0) (by omega) (by omega)
  rw [show ((1 + m0 : Nat) : Int) = 1 + (m0 : Int) from by omega] at hsc
  have hsv := scanT_valid (fr := fr) (tk := tk) (most := 1 + m0) T
  have hsi := seen_in (T := T) (fr := fr) (tk := tk) (most := 1 + m0) rfl
  have hsl := scanT_S_len hS.ok fr tk (1 + m0)
  have hbn := hS.bnd.1
  obtain ⟨st, hst⟩ : ∃ st, st = scanT T fr tk (1 + m0) := ⟨_, rfl⟩
  rw [← hst] at hsc hsv hsi hsl
  have HS := Lib.hid hS
  have HST := Lib.hid hst
  have HB2 := Lib.hid hB2
  have HX2 := Lib.hid hbx2
  have HSI := Lib.hid hsi
  have hn1w : w.heap.size ≤ w1.heap.size := hB1.size
  clear hS hst hG1 hB1 hB2 hbx1 b1 b2 hm0 hsi hbx2
  go_wp2_with (first
    | (go_at_call 42; refine hA30.mono ?_; rintro e w3 ⟨rfl, rfl⟩)
    | (go_at_call 47; refine hsc.mono ?_; rintro e w4 ⟨a8, c8, a9, c9, a10, c10, rfl, h8, h9, h10, b4⟩; have hV0 := valid_ts (HS.out.below b4) (by omega) a10 c10 _ st.S rfl (by omega) (rd3_own h10) HSI.out; rw [hsv] at hV0)
    | (go_at_call 49; refine hV0.mono ?_; rintro e w5 ⟨rfl, b5⟩))
  obtain ⟨Q, hQ⟩ : ∃ Q : World → Prop, Q = UnQ w2.heap.size a8 c8 a10 c10 st w.heap.size #[.int .i64 k0, .string fr, .string tk, .int .i64 v0] := ⟨_, rfl⟩
  have hKQ : KeepQ Q := by rw [hQ]; exact keep_un _ _ _ _ _ _ _ _
  have hq4 : Q w4 := by rw [hQ]; exact ⟨⟨h8, h10⟩, HX2.out.below b4 HX2.out.lt⟩
  have hB4 := HB2.out.trans (b4.mono HB2.out.size)
  have hI0 : KeptI w1.heap.size M.tb 200 T Q false w5 := ⟨M, T, rfl, (HS.out.below b4).below b5, Rel.refl T, fun _ => rfl, hKQ.bel b5 hq4⟩
  have HI0 := Lib.hid hI0
  have HB5 := Lib.hid (hB4.trans (b5.mono hB4.size))
  have HKQ := Lib.hid hKQ
  have HQ := Lib.hid hQ
  clear hV0 hI0 hB4 hq4 hKQ h8 h9 h10 b4 b5 hsc hA30 cx1 cx2 cx3 hQ
  obtain ⟨tb, htb⟩ : ∃ tb, tb = M.tb := ⟨_, rfl⟩
  rw [← htb] at HI0 ⊢
  clear htb
  have HSV := Lib.hid hsv
  clear hsv
  go_loopg [13, 14] 100 (fun gn c i wr => ∃ (j : Nat) (ch : Bool), j ≤ 100 ∧ j ≤ nM ∧ c = .bool ch ∧ i = .int .i64 j ∧ gn = 100 - j ∧ KeptI w1.heap.size tb (200 + j) T Q ch wr ∧ Below w.heap.size w wr)
  case atStart => exact ⟨0, false, Nat.zero_le _, Nat.zero_le _, rfl, rfl, rfl, HI0.out, HB5.out⟩
  case round =>
    obtain ⟨j, ch, hj, hjl, rfl, rfl, rfl, hI, hb⟩ := hrel
    have HI := Lib.hid hI
    have HB := Lib.hid hb
    clear hI hb HI0 HB5 HB2 HX2
    by_cases hgo : j < nM ∧ j < 100
    · obtain ⟨h1, h2⟩ := hgo
      obtain ⟨b, off, rfl, hbB, c0, c1, c2, c3⟩ := (RL.out.below HB.out) j (by rw [HL.out]; exact h1)
      generalize (L.getD j actT0) = act at c0 c1 c2 c3
      obtain ⟨ak, ky, kt, vl⟩ := act
      dsimp only at c0 c1 c2 c3
      have hA2 := amongT ak 2 wr (by omega) (by omega)
      have hji : (j : Int) < (nM : Int) := by omega
      have hj2 : (j : Int) < 100 := by omega
      have hj0 : (0 : Int) ≤ (j : Int) := by omega
      obtain ⟨Mx, Tx, htb, hS, hrel, hsame, hqx⟩ := HI.out
      have hLn := len_ts hS
      have hP := put_q HKQ.out hS.drew (by omega) (HKQ.out.bel (Below.refl _ wr).drew hqx) ky vl
      have hT := take_q HKQ.out hS (by omega) hqx ky
      rw [htb] at hLn hP hT
      have HP := Lib.hid hP
      have HT := Lib.hid hT
      have HREL := Lib.hid hrel
      have HSAME := Lib.hid hsame
      clear hS htb hrel hsame hqx hP hT
      obtain ⟨n0, hn0⟩ : ∃ n0, n0 = (entsT Tx).length := ⟨_, rfl⟩
      rw [← hn0] at hLn
      have HN0 := Lib.hid hn0
      clear hn0
      go_upto_if 69 with (first | (go_at_call 42; refine hA2.mono ?_; rintro e w4 ⟨rfl, rfl⟩) | (go_at_call 45; refine hLn.mono ?_; rintro e w4 ⟨rfl, rfl⟩))
      go_cut [70] (fun _ wx => StepQ w1.heap.size tb (200 + j + 1) Tx Q wx ∧ Below w1.heap.size wr wx)
      case first =>
        by_cases h4 : ak % 2 = 0
        · generalize ak % 2 = r4 at *
          subst h4
          go_wp2_with fail
          go_region_with (go_at_call 43; refine HP.out.mono ?_; rintro e w5 ⟨r0, r1, r2, rfl, hs5, b5⟩)
          all_goals
            go_wp2_with fail
            go_meet
            exact ⟨hs5, ((Below.refl _ wr).drew).trans b5⟩
        · have hne : ((ak % 2) == 0) = false := by simpa using h4
          generalize ak % 2 = r4 at *
          clear h4
          go_wp2_with (go_at_call 46; refine HT.out.mono ?_; rintro e w5 ⟨r0, r1, rfl, hs5, b5⟩)
          go_meet
          exact ⟨hs5, b5⟩
      case rest =>
        obtain ⟨⟨My, Ty, hmb, hSy, hTn, hqy⟩, b5⟩ := hcut
        have hqy2 := hqy
        rw [HQ.out] at hqy2
        obtain ⟨⟨hk8, hk10⟩, hkx⟩ := hqy2
        have hrel := HREL.out.trans hTn.rel
        have hLy := len_ts hSy
        have hV := valid_ts hSy (by omega) a10 c10 _ st.S rfl (by omega) (rd3_own hk10) (hrel.nums_in HSI.out)
        rw [hmb] at hLy hV
        obtain ⟨n1, hn1⟩ : ∃ n1, n1 = (entsT Ty).length := ⟨_, rfl⟩
        rw [← hn1] at hLy
        obtain ⟨vb, hvb⟩ : ∃ vb, vb = validM Ty st.S := ⟨_, rfl⟩
        rw [← hvb] at hV
        have hsame : n1 = n0 → ch = false → cntT Ty = cntT T := fun h1 h2 => (hTn.same (by rw [← hn1, h1]; exact HN0.out)).trans (HSAME.out h2)
        have hvf : n1 = n0 → ch = false → vb = true := fun h1 h2 => by
          rw [hvb, validM_cnt (hsame h1 h2)]
          exact HSV.out
        have hsc2 : ∀ W, Below _ _ W → Calls Try.prog 47 #[.pointer (some ⟨tb, 0, none⟩), .string fr, .string tk, .int .i64 (1 + (m0 : Int))] W (ScanTr W (scanT Ty fr tk (1 + m0))) := fun W hW => by
          have := scan_ts (hSy.below hW) (by omega) fr tk (1 + m0) (by omega) (by omega)
          rw [hmb, show ((1 + m0 : Nat) : Int) = 1 + (m0 : Int) from by omega] at this
          exact this
        have hkeys : vb = true → (scanT Ty fr tk (1 + m0)).A.map (·.1) = st.A.map (·.1) := fun h => by
          rw [HST.out]
          exact scan_valid HS.out.ok hSy.ok hrel hSy.tree.nums (by rw [← HST.out, ← hvb]; exact h)
        have hbz := b5.size
        have hend : ∀ (ch' : Bool) W, (ch' = false → n1 = n0 ∧ ch = false) → Below _ _ W → KeptI w1.heap.size tb (200 + (j + 1)) T Q ch' W ∧ Below w.heap.size w W := fun ch' W hc b6 =>
          ⟨⟨My, Ty, hmb, hSy.below b6, hrel, fun h => hsame (hc h).1 (hc h).2, HKQ.out.bel b6 hqy⟩, (HB.out.trans (b5.mono hn1w)).trans (b6.mono (Nat.le_trans HB.out.size b5.size))⟩
        have HEND := Lib.hid hend
        have HSC2 := Lib.hid hsc2
        have HK8 := Lib.hid hk8
        have HKX := Lib.hid hkx
        clear hend hsc2 hTn hSy hqy b5 hsame hn1 hrel hk8 hk10 hkx hvb
        generalize scanT Ty fr tk (1 + m0) = st2 at HSC2 hkeys
        have hq1 : n1 = n0 ∨ (((n1 : Int) != (n0 : Int)) = true ∧ ¬ ((n1 : Int) = (n0 : Int)) ∧ ¬ (n1 = n0)) := by
          by_cases h : n1 = n0
          · exact .inl h
          · have h2 : ¬ ((n1 : Int) = (n0 : Int)) := by omega
            exact .inr ⟨by rw [bne_iff_ne]; exact h2, h2, h⟩
        cases vb
        · clear hkeys
          rcases hq1 with rfl | ⟨q1, q3, q4⟩
          all_goals
            cases ch
            all_goals
              first
              | (exfalso; exact Bool.false_ne_true (hvf rfl rfl))
              | (clear hvf
                 go_wp2_with (first
                   | (go_at_call 45; refine hLy.mono ?_; rintro e w4 ⟨rfl, rfl⟩)
                   | (go_at_call 49; refine hV.mono ?_; rintro e w6 ⟨rfl, b6⟩; have hkx6 := HKX.out.below b6 HKX.out.lt; have cy1 := hkx6.at 1 rfl; have cy2 := hkx6.at 2 rfl)
                   | (go_at_call 47; refine (HSC2.out _ b6).mono ?_; rintro e w7 ⟨d8, e8, d9, e9, d10, e10, rfl, g8, g9, g10, b7⟩))
                 go_roundg (100 - (j + 1))
                 case rel => exact ⟨j + 1, _, by omega, by omega, rfl, by go_num, rfl, HEND.out _ _ (fun h => by first | exact ⟨rfl, rfl⟩ | (cases h; done) | (rw [q1] at h; cases h; done) | (simp at h; done) | exact ⟨trivial, trivial⟩) (b6.trans (b7.mono b6.size))⟩
                 case measure => omega)
        · have hkk := Lib.hid (hkeys rfl)
          clear hvf hkeys
          rcases hq1 with rfl | ⟨q1, q3, q4⟩
          all_goals
            cases ch
            all_goals
              go_wp2_with (first
                | (go_at_call 45; refine hLy.mono ?_; rintro e w4 ⟨rfl, rfl⟩)
                | (go_at_call 49; refine hV.mono ?_; rintro e w6 ⟨rfl, b6⟩; have hkx6 := HKX.out.below b6 HKX.out.lt; have cy1 := hkx6.at 1 rfl; have cy2 := hkx6.at 2 rfl)
                | (go_at_call 47; refine (HSC2.out _ b6).mono ?_; rintro e w7 ⟨d8, e8, d9, e9, d10, e10, rfl, g8, g9, g10, b7⟩; have b67 := b6.trans (b7.mono b6.size); have hk7 := own_chg HK8.out (Chg.of_below b67 []) (by simp); have hst := sameTexts_any w7 d8 a8 _ _ e8 c8 _ _ (List.length_map _) (List.length_map _) ⟨own_max g8, own_max hk7⟩ (own_keys g8) (own_keys hk7); rw [decide_eq_true hkk.out] at hst)
                | (go_at_call 32; refine hst.mono ?_; rintro e w8 ⟨rfl, q, rfl⟩))
              go_roundg (100 - (j + 1))
              case rel => exact ⟨j + 1, _, by omega, by omega, rfl, by go_num, rfl, HEND.out _ _ (fun h => by first | exact ⟨rfl, rfl⟩ | (cases h; done) | (rw [q1] at h; cases h; done) | (simp at h; done) | exact ⟨trivial, trivial⟩) (below_drewN b67 q)⟩
              case measure => omega
    · have hF := HB.out
      by_cases h1 : j < nM
      · have h2 : ¬ ((j : Int) < 100) := by omega
        have h1' : (j : Int) < (nM : Int) := by omega
        have HF := Lib.hid hF
        clear hF
        go_wp2_with fail
        go_ret
        exact ⟨rfl, HF.out⟩
      · have h1' : ¬ ((j : Int) < (nM : Int)) := by omega
        have HF := Lib.hid hF
        clear hF
        go_wp2_with fail
        go_ret
        exact ⟨rfl, HF.out⟩

end Go.Proofs.Ythplnecnagbedaa
