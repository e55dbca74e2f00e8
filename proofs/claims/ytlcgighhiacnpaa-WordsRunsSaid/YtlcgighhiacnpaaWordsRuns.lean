/- The walk of the law WordsRuns: tasks that take steps as they are picked come to what the document says; conditions: what came in reads, and is no larger than memory is. -/
import Derived.Test.YtlcgighhiacnpaaWdRefRun
import Derived.Test.YtlcgighhiacnpaaWdSame
import Derived.Test.YtlcgighhiacnpaaWdLend
namespace Go.Proofs.Ytlcgighhiacnpaa
open Go.RowKit

theorem rrun_open (w : World) (ta ca pa : Option Addr) (tn tc cn cc pn pc : Nat) (T : List (List Ins)) (C : List Nat) (P : List Int) (hT : T.length = tn) (hC : C.length = cn) (hP : P.length = pn) (hln : tn ≤ 9223372036854775807 ∧ cn ≤ 9223372036854775807 ∧ pn ≤ 9223372036854775807)
    (hrt : RdT w w.heap.size ta T) (hrc : RdU w w.heap.size ca C) (hrp : RdN w w.heap.size pa P) {R : Rep} {c : Int} (hx : runM T C P = (R, c)) :
    Calls Try.prog 14 #[.slice ta tn tc, .slice ca cn cc, .slice pa pn pc] w (RunOpen w R c) :=
  (rrun_any w ta ca pa tn tc cn cc pn pc T C P hT hC hP hln hrt hrc hrp).mono fun _ _ h => runOpen_of (by rw [runD_eq, hx] at h; exact h)
theorem lent_rd {w : World} {B g n k : Nat} {P : List Int} (ho : w.ownsRow B 3 1 (.slice (some ⟨g, 0, none⟩) (n + 1) k) (n + 1) (lentL P)) (hP : P.length = n) : RdN w w.heap.size (some ⟨g, 0, none⟩) P := fun j hj => by
  obtain ⟨b, e, _, hb, hc⟩ := own_rd ho j (.int .i64 (P.getD j 0)) (by
    unfold lentL
    rw [List.getElem?_append_left (by simpa using hj)]
    simp [List.getD, hj])
  exact ⟨b, 0, e, hb, by rw [Nat.zero_add]; exact hc⟩
theorem runM_len {T : List (List Ins)} {C : List Nat} {P : List Int} {R : Rep} {c : Int} (h : runM T C P = (R, c)) : R.regs.length = R.done.length := by
  rcases runM_split T C P with ⟨c', _, e⟩ | ⟨_, _, _, e⟩
  · rw [e] at h; injection h with h _; rw [← h]; rfl
  · rw [e] at h; injection h with h _; rw [← h]; simp [repOf, regsTo_len, doneTo_len]
theorem RepAt.below {B : Nat} {w w' : World} {cv rv dv : Value} {R : Rep} (h : RepAt B w cv rv dv R) (hc : Below w.heap.size w w') : RepAt B w' cv rv dv R := h.chg hc

set_option maxRecDepth 100000 in
set_option maxHeartbeats 4000000 in
theorem wordsRuns_any (w : World) (ta : Option Addr) (tn tc : Nat) (T : List (List Ins)) (hT : T.length = tn) (hrt : RdT w w.heap.size ta T) (hzt : tn * 24 ≤ 140737488351232) (hzi : ∀ k, k < tn → (T.getD k []).length * 32 ≤ 140737488351232)
    (ca : Option Addr) (cn cc : Nat) (C : List Nat) (hC : C.length = cn) (hrc : RdU w w.heap.size ca C) (hzc : cn * 8 ≤ 140737488351232)
    (pa : Option Addr) (pn pc : Nat) (P : List Int) (hP : P.length = pn) (hrp : RdN w w.heap.size pa P) (hzp : pn * 8 ≤ 140737488351232) :
    Calls Try.prog 3 #[.slice ta tn tc, .slice ca cn cc, .slice pa pn pc] w fun e w' => e = .returned (.bool true) ∧ Below w.heap.size w w' := by
  obtain ⟨i8, hi8, hz80, hz81, hz82⟩ := info_parts Try.info38
  have HI8 := Lib.hid hi8
  clear hi8
  have hbl : ∀ W, (Instr.buildSlice 23 0 #[]).run Try.prog W = .ok (.slice (some ⟨W.heap.size, 0, none⟩) 0 0) (W.alloc (.cells #[] 38)) := fun W => by kernel_rfl
  have hln : tn ≤ 9223372036854775807 ∧ cn ≤ 9223372036854775807 ∧ pn ≤ 9223372036854775807 := by omega
  obtain ⟨R, c, hx⟩ : ∃ R c, runM T C P = (R, c) := ⟨_, _, rfl⟩
  have hrl := runM_len hx
  have hcp := copied_any w ta tn tc T hT hzt hzi hrt
  have HRT := Lib.hid hrt
  have HRC := Lib.hid hrc
  have HRP := Lib.hid hrp
  have HLT := Lib.hid (rdU_lt hrc)
  have HX := Lib.hid hx
  have HRL := Lib.hid hrl
  have HT := Lib.hid hT
  have HC := Lib.hid hC
  have HP := Lib.hid hP
  clear hrt hrc hrp hx hT hC hP hrl hzi
  go_enter Try.func3, Try.ntmps3
  go_upto_region 4 with (first
    | (go_at_call 10; refine hld.mono ?_; rintro e w3 ⟨g3, k3, rfl, ho3, b3⟩)
    | (at_builtin; refine wpList_append_to rfl (.tmp 27) (.tmp 28) 23 rfl w1.heap.size 38 i8 (.int .u64 0) 1 8 (by kernel_rfl) HI8.out hz80 hz81 hz82 rfl (by decide) (.slice (some ⟨w1.heap.size, 0, none⟩) 0 0) 0 [] rfl (World.ownsRow_made (size := 1) (e := 38) w1 #[] 0 (Nat.le_refl _) (Nat.zero_le _) rfl) ca cn cc (uvl C) rfl (by rw [uvl_len, HC.out, Nat.mul_one]) (HRC.out.newsW (b1.alloc b1.size _)) (uvl_one C) cn (by omega) _ rfl (by unfold maxLen; omega) (by omega) (by simp only [World.size_alloc]; omega) ?_; intro a2 k2 w2 ho2 hg2; have b12 : Below w1.heap.size w1 w2 := below_grown ((Below.refl _ w1).alloc (Nat.le_refl _) _) hg2 (by simp only [World.size_alloc]; omega) (fun g hg => by simp [Value.ownBlock] at hg; omega); have b02 := b1.trans (b12.mono b1.size); have hld := lend_any w2 pa pn pc P HP.out hzp ((HRP.out.below b02).mono b02.size))
    | (go_at_call 9; refine hcp.mono ?_; rintro e w1 ⟨a1, k1, rfl, hT1, _, b1⟩)
    | (go_at_call 8; refine (names_any _).mono ?_; rintro e w0 ⟨rfl, rfl⟩))
  have b13 : Below w1.heap.size w1 w3 := b12.trans (b3.mono b12.size)
  have b03 : Below w.heap.size w w3 := b1.trans (b13.mono b1.size)
  have hT3 : RdT w3 w3.heap.size a1 T := (hT1.below b13).mono b13.size
  have ho23 : w3.ownsRow w1.heap.size 38 1 (.slice a2 cn k2) cn (uvl C) := own_chg ho2 (Chg.of_below b3 []) (by simp)
  have hC3 : RdU w3 w3.heap.size a2 C := OwnU.rd (B := w1.heap.size) (n := cn) (k := k2) ⟨by rw [HC.out]; exact ho23, HLT.out⟩
  have hP3 : RdN w3 w3.heap.size (some ⟨g3, 0, none⟩) P := lent_rd ho3 HP.out
  have HB3 := Lib.hid b03
  have HT3 := Lib.hid hT3
  have HC3 := Lib.hid hC3
  have HP3 := Lib.hid hP3
  have HO3 := Lib.hid ho3
  have hs3 := b03.size
  clear b13 b03 hT3 ho23 hC3 hP3 ho3 b3 b12 b02 b1 hT1 ho2 hg2 hcp hld
  have hchk := check_any w3 a1 tn k1 T HT.out hln.1 HT3.out cn
  have hrchk := fun W (hb : Below w3.heap.size w3 W) => rcheck_any W ta tn tc T HT.out hln.1 ((HRT.out.below (HB3.out.trans (hb.mono hs3))).mono (Nat.le_trans hs3 hb.size)) cn
  obtain ⟨q1, q2, q3, hq⟩ : ∃ q1 q2 : Nat, ∃ q3 : Int, chk T cn = (q1, q2, q3) := ⟨_, _, _, rfl⟩
  rw [hq] at hchk hrchk
  unfold tup3 at hchk hrchk
  dsimp only at hchk hrchk
  have hrun := fun W (hb : Below w3.heap.size w3 W) => run_open W a1 a2 (some ⟨g3, 0, none⟩) tn k1 cn k2 pn k3 T C P HT.out HC.out HP.out hln ((HT3.out.below hb).mono hb.size) ((HC3.out.below hb).mono hb.size) ((HP3.out.below hb).mono hb.size) HX.out
  have hrrun := fun W (hb : Below w3.heap.size w3 W) => rrun_open W ta ca pa tn tc cn cc pn pc T C P HT.out HC.out HP.out hln ((HRT.out.below (HB3.out.trans (hb.mono hs3))).mono (Nat.le_trans hs3 hb.size)) ((HRC.out.below (HB3.out.trans (hb.mono hs3))).mono (Nat.le_trans hs3 hb.size)) ((HRP.out.below (HB3.out.trans (hb.mono hs3))).mono (Nat.le_trans hs3 hb.size)) HX.out
  have hsm := same_any
  go_upto_region 8 with (first
    | (go_at_call 14; refine (hrrun _ b36a).mono ?_; rintro e w7 ⟨yc, yck, yr, yrk, yd, ydk, rfl, hRy, b7⟩)
    | (go_at_call 13; refine (hrun _ b35).mono ?_; rintro e w6 ⟨xc, xck, xr, xrk, xd, xdk, rfl, hRx, b6⟩; have b36 := b35.trans (b6.mono b35.size); have b36a := b36.alloc b36.size (.cells #[.slice xc R.cells.length xck, .slice xr R.regs.length xrk, .slice xd R.done.length xdk, .int .i64 R.steps] 34))
    | (go_at_call 12; refine (hrchk _ b4).mono ?_; rintro e w5 ⟨rfl, b5⟩; have b35 := b4.trans (b5.mono b4.size))
    | (go_at_call 11; refine hchk.mono ?_; rintro e w4 ⟨rfl, b4⟩))
  have hx6 : Blk (w6.alloc (.cells #[.slice xc R.cells.length xck, .slice xr R.regs.length xrk, .slice xd R.done.length xdk, .int .i64 R.steps] 34)) w6.heap.size 34 #[.slice xc R.cells.length xck, .slice xr R.regs.length xrk, .slice xd R.done.length xdk, .int .i64 R.steps] := Blk.new w6 34 _
  have hs6 : (w6.alloc (.cells #[.slice xc R.cells.length xck, .slice xr R.regs.length xrk, .slice xd R.done.length xdk, .int .i64 R.steps] 34)).heap.size = w6.heap.size + 1 := by simp
  rw [hs6] at hRy b7
  have hx7 := hx6.below b7 (by omega)
  have b68 : Below w6.heap.size w6 w7 := ((Below.refl _ w6).alloc (Nat.le_refl _) _).trans (b7.mono (by omega))
  have rx7 := hRx.chg b68
  have hs67 := b7.size
  rw [hs6] at hs67
  have b37 := b36a.trans (b7.mono (by have := b36.size; omega))
  have hB78 : Below w7.heap.size w7 (w7.alloc (.cells #[.slice yc R.cells.length yck, .slice yr R.regs.length yrk, .slice yd R.done.length ydk, .int .i64 R.steps] 34)) := (Below.refl _ w7).alloc (Nat.le_refl _) _
  have rx8 := rx7.chg hB78
  have ry8 := hRy.chg hB78
  have xB8 := hx7.below hB78 (by omega)
  have yB8 : Blk (w7.alloc (.cells #[.slice yc R.cells.length yck, .slice yr R.regs.length yrk, .slice yd R.done.length ydk, .int .i64 R.steps] 34)) w7.heap.size 34 #[.slice yc R.cells.length yck, .slice yr R.regs.length yrk, .slice yd R.done.length ydk, .int .i64 R.steps] := Blk.new w7 34 _
  have b38 := b37.alloc b37.size (.cells #[.slice yc R.cells.length yck, .slice yr R.regs.length yrk, .slice yd R.done.length ydk, .int .i64 R.steps] 34)
  have hxl : ∀ g, (Value.slice xc R.cells.length xck).ownBlock = some g → g < w6.heap.size + 1 := fun g hg => by have := (hRx.cells.1.lt g hg).2; omega
  have hz5 := b35.size
  have hz36 := b36.size
  have hz37 := b37.size
  generalize (w7.alloc (.cells #[.slice yc R.cells.length yck, .slice yr R.regs.length yrk, .slice yd R.done.length ydk, .int .i64 R.steps] 34)) = W8 at rx8 ry8 xB8 yB8 b38 ⊢
  obtain ⟨bx, hbx⟩ : ∃ bx, bx = w6.heap.size := ⟨_, rfl⟩
  obtain ⟨bY, hbY⟩ : ∃ bY, bY = w7.heap.size := ⟨_, rfl⟩
  rw [← hbx] at xB8 hxl ry8 ⊢
  rw [← hbY] at yB8 ⊢
  have hbx3 : w3.heap.size ≤ bx := by omega
  have hbY3 : w3.heap.size ≤ bY := by omega
  have hbxY : bx < bY := by omega
  have hsame := same_any W8 _ _ xc xr xd yc yr yd xck xrk xdk yck yrk ydk R rx8 ry8 HRL.out
  unfold repV at hsame
  have xb0 : W8.cell? ⟨bx, 0, none⟩ = some (.slice xc R.cells.length xck) := xB8.at 0 rfl
  have xb1 : W8.cell? ⟨bx, 1, none⟩ = some (.slice xr R.regs.length xrk) := xB8.at 1 rfl
  have xb2 : W8.cell? ⟨bx, 2, none⟩ = some (.slice xd R.done.length xdk) := xB8.at 2 rfl
  have xb3 : W8.cell? ⟨bx, 3, none⟩ = some (.int .i64 R.steps) := xB8.at 3 rfl
  have yb0 : W8.cell? ⟨bY, 0, none⟩ = some (.slice yc R.cells.length yck) := yB8.at 0 rfl
  have yb1 : W8.cell? ⟨bY, 1, none⟩ = some (.slice yr R.regs.length yrk) := yB8.at 1 rfl
  have yb2 : W8.cell? ⟨bY, 2, none⟩ = some (.slice yd R.done.length ydk) := yB8.at 2 rfl
  have yb3 : W8.cell? ⟨bY, 3, none⟩ = some (.int .i64 R.steps) := yB8.at 3 rfl
  have XO := Lib.hid (rx8.cells.lower (B' := w3.heap.size) hz5)
  have RY := Lib.hid ry8
  have XB := Lib.hid xB8
  have YB := Lib.hid yB8
  have B8 := Lib.hid b38
  have HXL := Lib.hid hxl
  have hcl := own_max rx8.cells.1
  clear hx6 hs6 hRy b7 hx7 b68 rx7 hs67 b37 hB78 rx8 ry8 xB8 yB8 b38 hxl hz5 hz36 hz37 hRx b36 b36a b6 b35 b4 b5 hchk hrchk hbx hbY
  go_upto_region 10 with (go_at_call 15; refine hsame.mono ?_; rintro e w9 ⟨rfl, b9⟩)
  have XO9 := Lib.hid (XO.out.chg (Chg.of_below b9 []) (by simp))
  have RY9 := Lib.hid (RY.out.chg b9)
  have XB9 := Lib.hid (XB.out.below b9 XB.out.lt)
  have YB9 := Lib.hid (YB.out.below b9 YB.out.lt)
  have B9 := Lib.hid (B8.out.trans (b9.mono B8.out.size))
  clear hsame xb0 xb1 xb2 xb3 yb0 yb1 yb2 yb3 XO RY XB YB B8 b9
  obtain ⟨nC, hnC⟩ : ∃ nC, nC = R.cells.length := ⟨_, rfl⟩
  rw [← hnC] at hcl
  have XO9' : Hid (OwnU w3.heap.size w9 (.slice xc nC xck) R.cells) := by rw [hnC]; exact XO9
  have HNC := Lib.hid hnC
  go_wp2_with fail
  go_loopg [20] nC (fun gn i wx => ∃ (k : Nat) (C' : List Nat), k ≤ nC ∧ i = .int .i64 k ∧ gn = nC - k ∧ C'.length = nC ∧ OwnU w3.heap.size wx (.slice xc nC xck) C' ∧ Below w3.heap.size w3 wx ∧ Blk wx bx 34 #[.slice xc R.cells.length xck, .slice xr R.regs.length xrk, .slice xd R.done.length xdk, .int .i64 R.steps] ∧ Blk wx bY 34 #[.slice yc R.cells.length yck, .slice yr R.regs.length yrk, .slice yd R.done.length ydk, .int .i64 R.steps] ∧ RepAt (bx + 1) wx (.slice yc R.cells.length yck) (.slice yr R.regs.length yrk) (.slice yd R.done.length ydk) R)
  case atStart => exact ⟨0, R.cells, Nat.zero_le _, rfl, rfl, HNC.out.symm, XO9'.out, B9.out, XB9.out, YB9.out, RY9.out⟩
  case round =>
    clear XO9 XO9' RY9 XB9 YB9 B9
    obtain ⟨k, C', hk, rfl, rfl, hCl, hO, hB, hX, hY, hR⟩ := hrel
    rw [← hnC] at hX
    have x0 : wr.cell? ⟨bx, 0, none⟩ = some (.slice xc nC xck) := hX.at 0 rfl
    by_cases hkn : k < nC
    · have hkI : (k : Int) < (nC : Int) := by omega
      obtain ⟨g, cap, e1, _, hgB, hgl, c0, f0, hput⟩ := hO.at (j := k) (by omega)
      have hp := hput 77 (by decide)
      injection e1 with e1 e2 e3
      subst e1
      have hgx : g < bx + 1 := HXL.out g rfl
      have hgb : g ≠ bx := fun e => own_ne hO.1 hX (by decide) (by rw [← e]; rfl)
      have hgy : g ≠ bY := by omega
      have f1 := f0 k
      have hcs : ∀ {v : Value} {e : TypeId} {z n : Nat} {xs : List Value}, wr.ownsRow (bx + 1) e z v n xs → (wr.setCell ⟨g, k, none⟩ (.int .u64 77)).ownsRow (bx + 1) e z v n xs := fun h => own_chg h ((Chg.refl [g] wr).setCell (.inl (by simp)) _) fun b hb hm => by
        have := (h.lt b hb).1
        have := List.mem_singleton.1 hm
        omega
      have hR2 : RepAt (bx + 1) (wr.setCell ⟨g, k, none⟩ (.int .u64 77)) (.slice yc R.cells.length yck) (.slice yr R.regs.length yrk) (.slice yd R.done.length ydk) R := ⟨⟨hcs hR.cells.1, hR.cells.2⟩, hcs hR.regs, hR.rlen, hcs hR.done, hR.steps⟩
      have hX2 := hX.far (p := ⟨g, k, none⟩) (Ne.symm hgb) (.int .u64 77)
      have hY2 := hY.far (p := ⟨g, k, none⟩) (Ne.symm hgy) (.int .u64 77)
      have hB2 := hB.setCell (p := ⟨g, k, none⟩) hgB (.int .u64 77)
      have HP2 := Lib.hid hp
      have HR2 := Lib.hid hR2
      have HX2 := Lib.hid hX2
      have HY2 := Lib.hid hY2
      have HB2 := Lib.hid hB2
      generalize C'.getD k 0 = c0v at c0
      clear hput hp hR2 hX2 hY2 hB2 hcs hO hB hX hY hR f0
      go_wp2_with fail
      go_roundg (nC - (k + 1))
      case rel => exact ⟨k + 1, C'.set k 77, by omega, by go_num, rfl, by simpa using hCl, HP2.out, HB2.out, by rw [← hnC]; exact HX2.out, HY2.out, HR2.out⟩
      case measure => omega
    · obtain rfl : k = nC := by omega
      have hr3 := hrun wr hB
      have hbz := hB.size
      have HY := Lib.hid hY
      have HR := Lib.hid hR
      have HB := Lib.hid hB
      have hYl := hY.lt
      clear hO hX hY hR hB hrun
      go_upto_region 15 with (go_at_call 13; refine hr3.mono ?_; rintro e wa ⟨zc, zck, zr, zrk, zd, zdk, rfl, hRz, ba⟩)
      have b12 : Below wr.heap.size wr (wa.alloc (.cells #[.slice zc R.cells.length zck, .slice zr R.regs.length zrk, .slice zd R.done.length zdk, .int .i64 R.steps] 34)) := ba.alloc ba.size _
      have zB : Blk (wa.alloc (.cells #[.slice zc R.cells.length zck, .slice zr R.regs.length zrk, .slice zd R.done.length zdk, .int .i64 R.steps] 34)) wa.heap.size 34 #[.slice zc R.cells.length zck, .slice zr R.regs.length zrk, .slice zd R.done.length zdk, .int .i64 R.steps] := Blk.new wa 34 _
      have rz := hRz.chg ((Below.refl _ wa).alloc (Nat.le_refl _) (.cells #[.slice zc R.cells.length zck, .slice zr R.regs.length zrk, .slice zd R.done.length zdk, .int .i64 R.steps] 34))
      have hza := ba.size
      generalize (wa.alloc (.cells #[.slice zc R.cells.length zck, .slice zr R.regs.length zrk, .slice zd R.done.length zdk, .int .i64 R.steps] 34)) = W12 at b12 zB rz ⊢
      have yB := HY.out.below b12 hYl
      have ry := HR.out.chg b12
      have b312 := HB.out.trans (b12.mono hbz)
      obtain ⟨bz, hbZ⟩ : ∃ bz, bz = wa.heap.size := ⟨_, rfl⟩
      rw [← hbZ] at zB ⊢
      have hsame := hsm W12 _ _ zc zr zd yc yr yd zck zrk zdk yck yrk ydk R rz ry HRL.out
      unfold repV at hsame
      have zb0 : W12.cell? ⟨bz, 0, none⟩ = some (.slice zc R.cells.length zck) := zB.at 0 rfl
      have zb1 : W12.cell? ⟨bz, 1, none⟩ = some (.slice zr R.regs.length zrk) := zB.at 1 rfl
      have zb2 : W12.cell? ⟨bz, 2, none⟩ = some (.slice zd R.done.length zdk) := zB.at 2 rfl
      have zb3 : W12.cell? ⟨bz, 3, none⟩ = some (.int .i64 R.steps) := zB.at 3 rfl
      have yb0 : W12.cell? ⟨bY, 0, none⟩ = some (.slice yc R.cells.length yck) := yB.at 0 rfl
      have yb1 : W12.cell? ⟨bY, 1, none⟩ = some (.slice yr R.regs.length yrk) := yB.at 1 rfl
      have yb2 : W12.cell? ⟨bY, 2, none⟩ = some (.slice yd R.done.length ydk) := yB.at 2 rfl
      have yb3 : W12.cell? ⟨bY, 3, none⟩ = some (.int .i64 R.steps) := yB.at 3 rfl
      have B312 := Lib.hid b312
      have hs12 := b312.size
      have hsw := fun W (hb : Below w3.heap.size w3 W) => sameWords_any W a2 ca cn cn k2 cc C C HC.out HC.out (by omega) ((HC3.out.below hb).mono hb.size) ((HRC.out.below (HB3.out.trans (hb.mono hs3))).mono (Nat.le_trans hs3 hb.size))
      have hkp := fun W (hb : Below w3.heap.size w3 W) => kept_any W _ g3 pn k3 pa pn pc P HP.out HP.out (by omega) (own_chg HO3.out (Chg.of_below hb []) (by simp)) ((HRP.out.below (HB3.out.trans (hb.mono hs3))).mono (Nat.le_trans hs3 hb.size))
      rw [decide_eq_true rfl] at hsw
      clear hr3 HY HR HB hYl hRz ba b12 zB rz hza yB ry b312 hbZ x0
      go_wp2_with (first
        | (go_at_call 18; refine (works_any _).mono ?_; rintro e we ⟨rfl, bE⟩)
        | (go_at_call 17; refine (hkp _ bD).mono ?_; rintro e wd ⟨rfl, qd, rfl⟩)
        | (go_at_call 16; refine (hsw _ bC).mono ?_; rintro e wc ⟨rfl, qc, rfl⟩; have bD := below_drewN bC qc)
        | (go_at_call 15; refine hsame.mono ?_; rintro e wb ⟨rfl, bB⟩; have bC := B312.out.trans (bB.mono hs12)))
      go_ret
      exact ⟨rfl, HB3.out.trans (((below_drewN bC (qc + qd)).trans (bE.mono (below_drewN bC (qc + qd)).size)).mono hs3)⟩

end Go.Proofs.Ytlcgighhiacnpaa
