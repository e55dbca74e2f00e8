/- The law TreeMisses by contract: it returns true, whatever the acts; conditions: the acts read. -/
import Derived.Test.YthplnecnagbedaaTrGrown
import Derived.Deep.DeepCutAuto
import Derived.Deep.CutBlock
namespace Go.Proofs.Ythplnecnagbedaa
open Go.RowKit

theorem getSpec_has (A : List Ent) (k : ByteArray) : (getSpec A k).2 = hasE A k := by
  unfold getSpec
  cases hh : hasE A k with
  | true => obtain ⟨u, hu⟩ := get_of_has hh; rw [hu]
  | false => rw [get_has hh]
/-- A call's tree in the midst of a law's loop. -/
def StepR (B tb n : Nat) (Tx : Tr) (g : Nat) (cs : Array Value) (w : World) : Prop := ∃ My Ty, My.tb = tb ∧ TS B w My Ty n ∧ Turn Tx Ty ∧ Blk w g 118 cs
theorem step_put {B n : Nat} {w w' : World} {M : TrM} {T : Tr} {k : ByteArray} {v : Int} {e : Ending} {g : Nat} {cs : Array Value} (hS : TS B w M T n) (hb : Blk w g 118 cs) (h : PutS B w M T n k v e w') : ∃ r0 r1 r2, e = .returned (.tuple #[.int .i64 r0, .bool r1, .int .i64 r2]) ∧ StepR B M.tb (n + 1) T g cs w' ∧ Below B w w' := by
  obtain ⟨T', M', r0, r1, r2, hP, he, hS', hF⟩ := h
  exact ⟨r0, r1, r2, he, ⟨M', T', hF.tb, hS', hP.turn, hF.blk hS hb (noTr 118 rfl)⟩, hF.bel hS⟩
theorem step_take {B n : Nat} {w w' : World} {M : TrM} {T : Tr} {k : ByteArray} {e : Ending} {g : Nat} {cs : Array Value} (hS : TS B w M T n) (hb : Blk w g 118 cs) (h : TakeS B w M T n k e w') : ∃ r0 r1, e = .returned (.tuple #[.int .i64 r0, .int .i64 r1]) ∧ StepR B M.tb (n + 1) T g cs w' ∧ Below B w w' := by
  obtain ⟨T', M', r0, r1, hP, he, hS', hF⟩ := h
  exact ⟨r0, r1, he, ⟨M', T', hF.tb, hS', hP.turn, hF.blk hS hb (noTr 118 rfl)⟩, hF.bel hS⟩
/-- Behind Get, as far as the laws look. -/
def GetH (w : World) (l : Lf) (b : Bool) (e : Ending) (w' : World) : Prop := ∃ g v, w.heap.size ≤ g ∧ e = .returned (.tuple #[.int .i64 v, .bool b, .slice (some ⟨g, 0, none⟩) 1 1]) ∧ Blk w' g 118 (seenC (seenL l)) ∧ Below w.heap.size w w'
theorem get_th {B n : Nat} {w : World} {M : TrM} {T T1 T2 : Tr} {l : Lf} {k : ByteArray} (h : TS B w M T n) (hn : n ≤ 10000) (ha : AtLf T k T1 l T2) {b : Bool} (hb : hasE (entsT T) k = b) : Calls Try.prog 51 #[.pointer (some ⟨M.tb, 0, none⟩), .string k] w (GetH w l b) :=
  (get_ts h hn k ha).mono fun e w' ⟨g, h1, h2, h3, h4⟩ => ⟨g, (getSpec (entsT T) k).1, h1, by rw [h2, getSpec_has, hb], h3, h4⟩
/-- Between two rounds: how the tree stands to the one that was searched. -/
def MissI (B tb n : Nat) (T : Tr) (g : Nat) (cs : Array Value) (ch : Bool) (w : World) : Prop := ∃ M Tx, M.tb = tb ∧ TS B w M Tx n ∧ Rel T Tx ∧ (ch = false → cntT Tx = cntT T) ∧ Blk w g 118 cs

set_option maxRecDepth 100000 in
set_option maxHeartbeats 4000000 in
theorem treeMisses_any (w : World) (aA : Option Addr) (nA cA : Nat) (A : List ActT) (hA : A.length = nA) (hl1 : nA ≤ 9223372036854775807) (rA : RdT w w.heap.size aA A) (key : ByteArray)
    (aM : Option Addr) (nM cM : Nat) (L : List ActT) (hL : L.length = nM) (hl2 : nM ≤ 9223372036854775807) (rL : RdT w w.heap.size aM L) :
    Calls Try.prog 14 #[.slice aA nA cA, .string key, .slice aM nM cM] w fun e w' => e = .returned (.bool true) ∧ Below w.heap.size w w' := by
  have HL := Lib.hid hL
  have RL := Lib.hid rL
  have hG : ∀ W, Below w.heap.size w W → Calls Try.prog 48 #[.slice aA nA cA] W (GrownP W) := fun W hW => by
    refine grown_any W aA nA cA A hA hl1 fun k hk => ?_
    obtain ⟨b, off, e, hb, r⟩ := (rA.below hW) k hk
    exact ⟨b, off, e, Nat.lt_of_lt_of_le hb hW.size, r⟩
  have HG := Lib.hid hG
  clear hL rL hG hA rA
  go_enter Try.func14, Try.ntmps14
  go_upto_region 3 with (go_at_call 41; refine (treeWorks_any _).mono ?_; rintro e w1 ⟨rfl, b1⟩)
  have hG1 := HG.out w1 b1
  clear HG
  go_upto_region 6 with (go_at_call 48; refine hG1.mono ?_; rintro e w2 ⟨M, T, rfl, hS, b2⟩)
  obtain ⟨T1, lf, T2, ha, _⟩ := findT_at hS.ok key
  obtain ⟨b0, hb0⟩ : ∃ b0, hasE (entsT T) key = b0 := ⟨_, rfl⟩
  have hg := get_th hS (by omega) ha hb0
  have hB12 := b1.trans (b2.mono b1.size)
  have HS := Lib.hid hS
  have HA := Lib.hid ha
  have HB0 := Lib.hid hb0
  have HB12 := Lib.hid hB12
  clear hS ha hG1 hB12 hb0
  go_wp2_with (go_at_call 51; refine hg.mono ?_; rintro e w3 ⟨g, v, hgg, rfl, hgb, b3⟩)
  have hI0 : MissI w1.heap.size M.tb 200 T g (seenC (seenL lf)) false w3 := ⟨M, T, rfl, HS.out.below b3, Rel.refl T, fun _ => rfl, hgb⟩
  have hB3 := HB12.out.trans (b3.mono HB12.out.size)
  have hn1w : w.heap.size ≤ w1.heap.size := b1.size
  have HI0 := Lib.hid hI0
  have HB3 := Lib.hid hB3
  clear hI0 hB3 hgb b3 hg hgg b2
  obtain ⟨tb, htb⟩ : ∃ tb, tb = M.tb := ⟨_, rfl⟩
  rw [← htb] at HI0 ⊢
  clear htb
  go_loopg [11, 12] 100 (fun gn c i wr => ∃ (j : Nat) (ch : Bool), j ≤ 100 ∧ j ≤ nM ∧ c = .bool ch ∧ i = .int .i64 j ∧ gn = 100 - j ∧ MissI w1.heap.size tb (200 + j) T g (seenC (seenL lf)) ch wr ∧ Below w.heap.size w wr)
  case atStart => exact ⟨0, false, Nat.zero_le _, Nat.zero_le _, rfl, rfl, rfl, HI0.out, HB3.out⟩
  case round =>
    obtain ⟨j, ch, hj, hjl, rfl, rfl, rfl, hI, hb⟩ := hrel
    have HI := Lib.hid hI
    have HB := Lib.hid hb
    clear hI hb HI0 HB3
    by_cases hgo : j < nM ∧ j < 100
    · obtain ⟨h1, h2⟩ := hgo
      obtain ⟨b, off, rfl, hbB, c0, c1, c2, c3⟩ := (RL.out.below HB.out) j (by rw [HL.out]; exact h1)
      generalize (L.getD j actT0) = act at c0 c1 c2 c3
      obtain ⟨ak, ky, kt, vl⟩ := act
      dsimp only at c0 c1 c2 c3
      have hA4 := amongT vl 4 wr (by omega) (by omega)
      have hji : (j : Int) < (nM : Int) := by omega
      have hj2 : (j : Int) < 100 := by omega
      have hj0 : (0 : Int) ≤ (j : Int) := by omega
      obtain ⟨Mx, Tx, htb, hS, hrel, hsame, hgb⟩ := HI.out
      have hLn := len_ts hS
      rw [htb] at hLn
      have HSx := Lib.hid hS
      have HTB := Lib.hid htb
      have HREL := Lib.hid hrel
      have HSAME := Lib.hid hsame
      have HGB := Lib.hid hgb
      have HQ0 := Lib.hid c0
      have HQ3 := Lib.hid c3
      clear hS htb hrel hsame hgb
      obtain ⟨n0, hn0⟩ : ∃ n0, n0 = (entsT Tx).length := ⟨_, rfl⟩
      rw [← hn0] at hLn
      have HN0 := Lib.hid hn0
      clear hn0
      go_upto_if 55 with (first | (go_at_call 42; refine hA4.mono ?_; rintro e w4 ⟨rfl, rfl⟩) | (go_at_call 45; refine hLn.mono ?_; rintro e w4 ⟨rfl, rfl⟩))
      go_cut [14] (fun v wx => (∃ kk : ByteArray, v = .string kk) ∧ wr = wx)
      case first =>
        by_cases h4 : vl % 4 = 0
        · generalize vl % 4 = r4 at *
          subst h4
          go_wp2_with fail
          go_meet
          exact ⟨⟨_, rfl⟩, rfl⟩
        · have hne : ((vl % 4) == 0) = false := by simpa using h4
          generalize vl % 4 = r4 at *
          clear h4
          go_wp2_with fail
          go_meet
          exact ⟨⟨_, rfl⟩, rfl⟩
      case rest =>
        obtain ⟨⟨kk, rfl⟩, rfl⟩ := hcut
        have hA2 := amongT ak 2 wr (by omega) (by omega)
        have hP := (put_ts HSx.out (by omega) kk vl).mono fun e w' h => step_put HSx.out HGB.out h
        have hT := (take_ts HSx.out (by omega) kk).mono fun e w' h => step_take HSx.out HGB.out h
        rw [HTB.out] at hP hT
        have HP := Lib.hid hP
        have HT := Lib.hid hT
        clear hP hT hA4 hLn
        go_upto_if 63 with (go_at_call 42; refine hA2.mono ?_; rintro e w4 ⟨rfl, rfl⟩)
        go_cut [64] (fun _ wx => StepR w1.heap.size tb (200 + j + 1) Tx g (seenC (seenL lf)) wx ∧ Below w1.heap.size wr wx)
        case first =>
          by_cases h4 : ak % 2 = 0
          · generalize ak % 2 = r4 at *
            subst h4
            go_wp2_with (go_at_call 43; refine HP.out.mono ?_; rintro e w5 ⟨r0, r1, r2, rfl, hs5, b5⟩)
            go_meet
            exact ⟨hs5, b5⟩
          · have hne : ((ak % 2) == 0) = false := by simpa using h4
            generalize ak % 2 = r4 at *
            clear h4
            go_wp2_with (go_at_call 46; refine HT.out.mono ?_; rintro e w5 ⟨r0, r1, rfl, hs5, b5⟩)
            go_meet
            exact ⟨hs5, b5⟩
        case rest =>
          obtain ⟨⟨My, Ty, hmb, hSy, hTn, hgy⟩, b5⟩ := hcut
          have hrel := HREL.out.trans hTn.rel
          have hLy := len_ts hSy
          have hV := valid_ts hSy (by omega) (some ⟨g, 0, none⟩) 1 1 [seenL lf] rfl (by omega) (rd3_one hgy) (hrel.nums_in (by simp; exact ⟨lf, HA.out.mem, rfl⟩))
          obtain ⟨Y1, ly, Y2, hay, _⟩ := findT_at hSy.ok key
          obtain ⟨bb, hbb⟩ : ∃ bb, hasE (entsT Ty) key = bb := ⟨_, rfl⟩
          have hG := fun W hW => get_th (hSy.below (w' := W) hW) (by omega) hay hbb
          rw [hmb] at hLy hV hG
          obtain ⟨n1, hn1⟩ : ∃ n1, n1 = (entsT Ty).length := ⟨_, rfl⟩
          rw [← hn1] at hLy
          obtain ⟨vb, hvb⟩ : ∃ vb, vb = validM Ty [seenL lf] := ⟨_, rfl⟩
          rw [← hvb] at hV
          have hvt : vb = true → bb = b0 := fun h => by
            rw [← hbb, ← HB0.out]
            exact miss_valid HS.out.ok HA.out hSy.ok hrel hSy.tree.nums (by rw [← hvb]; exact h)
          have hsame : n1 = n0 → ch = false → cntT Ty = cntT T := fun h1 h2 => (hTn.same (by rw [← hn1, h1]; exact HN0.out)).trans (HSAME.out h2)
          have hvf : n1 = n0 → ch = false → vb = true := fun h1 h2 => by
            rw [hvb, validM_cnt (hsame h1 h2)]
            unfold validM
            simp [HA.out.mem]
            exact ⟨lf, HA.out.mem, rfl⟩
          have hbz := b5.size
          have hend : ∀ (ch' : Bool) w6 w7, (ch' = false → n1 = n0 ∧ ch = false) → Below _ _ w6 → Below w6.heap.size w6 w7 → MissI w1.heap.size tb (200 + (j + 1)) T g (seenC (seenL lf)) ch' w7 ∧ Below w.heap.size w w7 := fun ch' w6 w7 hc b6 b7 =>
            ⟨⟨My, Ty, hmb, (hSy.below b6).below b7, hrel, fun h => hsame (hc h).1 (hc h).2, (hgy.below b6 hgy.lt).below b7 (Nat.lt_of_lt_of_le hgy.lt b6.size)⟩, ((HB.out.trans (b5.mono hn1w)).trans (b6.mono (Nat.le_trans HB.out.size b5.size))).trans (b7.mono (Nat.le_trans HB.out.size (Nat.le_trans b5.size b6.size)))⟩
          have HEND := Lib.hid hend
          have HG2 := Lib.hid hG
          clear hend hG hTn hSy hgy b5 hvb hbb hsame hn1 hay hrel
          obtain ⟨q1, q2⟩ : (n1 = n0 ∨ (((n1 : Int) != (n0 : Int)) = true ∧ ¬ ((n1 : Int) = (n0 : Int)) ∧ ¬ (n1 = n0))) ∧ True := ⟨by
            by_cases h : n1 = n0
            · exact .inl h
            · have h2 : ¬ ((n1 : Int) = (n0 : Int)) := by omega
              exact .inr ⟨by rw [bne_iff_ne]; exact h2, h2, h⟩, trivial⟩
          cases vb
          · rcases q1 with rfl | ⟨q1, q3, q4⟩
            all_goals
              cases ch
              all_goals
                first
                | (exfalso; exact Bool.false_ne_true (hvf rfl rfl))
                | (clear hvf hvt
                   go_wp2_with (first
                     | (go_at_call 45; refine hLy.mono ?_; rintro e w4 ⟨rfl, rfl⟩)
                     | (go_at_call 49; refine hV.mono ?_; rintro e w6 ⟨rfl, b6⟩)
                     | (go_at_call 51; refine (HG2.out _ b6).mono ?_; rintro e w7 ⟨g2, v2, hg2, rfl, hgb2, b7⟩))
                   go_roundg (100 - (j + 1))
                   case rel => exact ⟨j + 1, _, by omega, by omega, rfl, by go_num, rfl, HEND.out _ w6 w7 (fun h => by first | exact ⟨rfl, rfl⟩ | (cases h; done) | (rw [q1] at h; cases h; done) | exact ⟨trivial, trivial⟩) b6 b7⟩
                   case measure => omega)
          · obtain rfl := hvt rfl
            clear hvf hvt
            rcases q1 with rfl | ⟨q1, q3, q4⟩
            all_goals
              cases ch
              all_goals
                cases bb
                all_goals
                  go_wp2_with (first
                    | (go_at_call 45; refine hLy.mono ?_; rintro e w4 ⟨rfl, rfl⟩)
                    | (go_at_call 49; refine hV.mono ?_; rintro e w6 ⟨rfl, b6⟩)
                    | (go_at_call 51; refine (HG2.out _ b6).mono ?_; rintro e w7 ⟨g2, v2, hg2, rfl, hgb2, b7⟩))
                  go_roundg (100 - (j + 1))
                  case rel => exact ⟨j + 1, _, by omega, by omega, rfl, by go_num, rfl, HEND.out _ w6 w7 (fun h => by first | exact ⟨rfl, rfl⟩ | (cases h; done) | (rw [q1] at h; cases h; done) | exact ⟨trivial, trivial⟩) b6 b7⟩
                  case measure => omega
    · have hF := HB.out
      by_cases h1 : j < nM
      · have h2 : ¬ ((j : Int) < 100) := by omega
        have h1' : (j : Int) < (nM : Int) := by omega
        have HF := Lib.hid hF
        clear hF
        go_wp2_with fail
        go_ret
        exact ⟨rfl, HF.out⟩
      · have h1' : ¬ ((j : Int) < (nM : Int)) := by omega
        have HF := Lib.hid hF
        clear hF
        go_wp2_with fail
        go_ret
        exact ⟨rfl, HF.out⟩

end Go.Proofs.Ythplnecnagbedaa
