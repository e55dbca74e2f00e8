/- done and step of package words, each by its contract; conditions: the task's instructions may be. -/
import Derived.Test.YtlcgighhiacnpaaWdModel
import Derived.Test.YtlcgighhiacnpaaWdCheck
import Derived.WalkMore
import Derived.ScopeJumps
namespace Go.Proofs.Ytlcgighhiacnpaa
open Go.RowKit

set_option maxRecDepth 100000 in
theorem done_any (w : World) (g o : Nat) (at_ : Option Addr) (len ct pos : Nat) (h0 : w.cell? ⟨g, o, none⟩ = some (.slice at_ len ct)) (h9 : w.cell? ⟨g, o + 9, none⟩ = some (.int .i64 pos)) :
    Calls Try.prog 26 #[.pointer (some ⟨g, o, none⟩)] w fun e w' => e = .returned (.bool (decide (len ≤ pos))) ∧ ∃ m, w' = w.drewN m := by
  go_enter Try.func26, Try.ntmps26
  go_upto_region 1 with fail
  go_quiet (fail)
  go_wp2_with fail
  go_ret
  exact ⟨rfl, _, rfl⟩

theorem below_own {B : Nat} {w : World} {e : TypeId} {size : Nat} {v : Value} {n : Nat} {xs : List Value} (h : w.ownsRow B e size v n xs) : ∀ q, v.ownBlock = some q → B ≤ q := fun q hq => by
  rcases h.2 with ⟨rfl, _⟩ | ⟨g, cap, cur, rfl, hB, _⟩
  · cases hq
  · injection hq with hq; subst hq; exact hB
/-- What holds at each jump of step: so many instructions are left. -/
structure SJ (w : World) (g o B : Nat) (cv hd : Value) (l : List Ins) (tk0 : Tk) (C0 : List Nat) (cs0 : Array Value) (left : Nat) (tk : Tk) (C : List Nat) (cs : Array Value) (w' : World) : Prop where
  le : left ≤ 64
  blk : Blk w' g 56 cs
  tkat : TkAt cs o hd tk
  out : SameOut cs0 cs o
  own : OwnU B w' cv C
  chg : Chg (g :: cv.ownBlock.toList) w w'
  eq : stepM l 64 tk0 C0 = stepM l left tk C
  len : C.length = C0.length

/-- The frame at the label. -/
def AtLabel (g o : Nat) (cv : Value) (a : Act) (left : Nat) : Prop := a.defers = [] ∧ a.tmps.size = 168 ∧ a.tmps.getD 0 undef = .pointer (some ⟨g, o, none⟩) ∧ a.tmps.getD 1 undef = cv ∧ ∃ li : Int, li = (left : Int) ∧ a.tmps.getD 4 undef = .int .i64 li
theorem tmps_lit (xs : Array Value) : xs = ((List.range xs.size).map fun i => xs.getD i undef).toArray := by
  apply Array.ext
  · simp
  · intro i h1 h2
    simp [Array.getD, h1]
set_option maxRecDepth 100000 in
theorem atLabel_frame {g o : Nat} {cv : Value} {a : Act} {left : Nat} (h : AtLabel g o cv a left) : ∃ (li : Int) (U : Nat → Value), li = (left : Int) ∧ a = { tmps := (Value.pointer (some ⟨g, o, none⟩) :: cv :: U 2 :: U 3 :: Value.int .i64 li :: U 5 :: U 6 :: U 7 :: U 8 :: U 9 :: U 10 :: U 11 :: U 12 :: U 13 :: U 14 :: U 15 :: U 16 :: U 17 :: U 18 :: U 19 :: U 20 :: U 21 :: U 22 :: U 23 :: U 24 :: U 25 :: U 26 :: U 27 :: U 28 :: U 29 :: U 30 :: U 31 :: U 32 :: U 33 :: U 34 :: U 35 :: U 36 :: U 37 :: U 38 :: U 39 :: U 40 :: U 41 :: U 42 :: U 43 :: U 44 :: U 45 :: U 46 :: U 47 :: U 48 :: U 49 :: U 50 :: U 51 :: U 52 :: U 53 :: U 54 :: U 55 :: U 56 :: U 57 :: U 58 :: U 59 :: U 60 :: U 61 :: U 62 :: U 63 :: U 64 :: U 65 :: U 66 :: U 67 :: U 68 :: U 69 :: U 70 :: U 71 :: U 72 :: U 73 :: U 74 :: U 75 :: U 76 :: U 77 :: U 78 :: U 79 :: U 80 :: U 81 :: U 82 :: U 83 :: U 84 :: U 85 :: U 86 :: U 87 :: U 88 :: U 89 :: U 90 :: U 91 :: U 92 :: U 93 :: U 94 :: U 95 :: U 96 :: U 97 :: U 98 :: U 99 :: U 100 :: U 101 :: U 102 :: U 103 :: U 104 :: U 105 :: U 106 :: U 107 :: U 108 :: U 109 :: U 110 :: U 111 :: U 112 :: U 113 :: U 114 :: U 115 :: U 116 :: U 117 :: U 118 :: U 119 :: U 120 :: U 121 :: U 122 :: U 123 :: U 124 :: U 125 :: U 126 :: U 127 :: U 128 :: U 129 :: U 130 :: U 131 :: U 132 :: U 133 :: U 134 :: U 135 :: U 136 :: U 137 :: U 138 :: U 139 :: U 140 :: U 141 :: U 142 :: U 143 :: U 144 :: U 145 :: U 146 :: U 147 :: U 148 :: U 149 :: U 150 :: U 151 :: U 152 :: U 153 :: U 154 :: U 155 :: U 156 :: U 157 :: U 158 :: U 159 :: U 160 :: U 161 :: U 162 :: U 163 :: U 164 :: U 165 :: U 166 :: U 167 :: []).toArray, defers := [] } := by
  obtain ⟨hd, hs, h0, h1, li, hli, h4⟩ := h
  refine ⟨li, fun i => a.tmps.getD i undef, hli, ?_⟩
  obtain ⟨tm, df⟩ := a
  dsimp only at hd hs h0 h1 h4 ⊢
  subst hd
  rw [← h0, ← h1, ← h4]
  have := tmps_lit tm
  rw [hs] at this
  exact congrArg (fun t => Act.mk t []) this

def StepPost (w : World) (g o B : Nat) (cv hd : Value) (l : List Ins) (tk0 : Tk) (C0 : List Nat) (cs0 : Array Value) (e : Ending) (w' : World) : Prop :=
  e = .returned (.tuple #[]) ∧ ∃ tk C cs, stepM l 64 tk0 C0 = (tk, C) ∧ Blk w' g 56 cs ∧ TkAt cs o hd tk ∧ SameOut cs0 cs o ∧ OwnU B w' cv C ∧ Chg (g :: cv.ownBlock.toList) w w' ∧ C.length = C0.length

def intOf : Value → Int | .int _ q => q | _ => 0
theorem okI_cases {x : Ins} {many cells : Int} (h : okI x many cells = true) : (0 ≤ x.a ∧ x.a ≤ 7) ∧ (0 ≤ x.b ∧ x.b ≤ 7) ∧ (x.k = 1 ∨ x.k = 2 ∨ x.k = 3 ∨ x.k = 8 ∨ (x.k = 4 ∧ 0 ≤ x.n ∧ x.n < cells) ∨ (x.k = 5 ∧ 0 ≤ x.n ∧ x.n < cells) ∨ (x.k = 6 ∧ 0 ≤ x.n ∧ x.n < cells) ∨ (x.k = 7 ∧ 0 ≤ x.n ∧ x.n ≤ many)) := by
  unfold okI at h
  split at h
  · cases h
  · split at h
    · omega
    · split at h
      · have := of_decide_eq_true h; omega
      · split at h
        · have := of_decide_eq_true h; omega
        · cases h
theorem stepM_done {l : List Ins} {f : Nat} {tk : Tk} {C : List Nat} (h : l.length ≤ tk.pos) : stepM l f tk C = (tk, C) := by
  cases f with
  | zero => rfl
  | succ f => unfold stepM; rw [if_pos h]
theorem stepM_go {l : List Ins} {f : Nat} {tk tk' : Tk} {C C' : List Nat} (h : ¬ l.length ≤ tk.pos) (he : exec l tk C = (tk', C', false)) : stepM l (f + 1) tk C = stepM l f tk' C' := by
  conv => lhs; unfold stepM
  rw [if_neg h, he]
theorem stepM_acc {l : List Ins} {f : Nat} {tk tk' : Tk} {C C' : List Nat} (h : ¬ l.length ≤ tk.pos) (he : exec l tk C = (tk', C', true)) : stepM l (f + 1) tk C = (tk', C') := by
  conv => lhs; unfold stepM
  rw [if_neg h, he]
theorem wp_jump_mono {P : Program} {c : Code} {l : Nat} {J J' : Act → World → Prop} {Q : Exit → Act → World → Prop} {a : Act} {w : World} (hJ : ∀ a w, J a w → J' a w) (h : c.wp P (Exit.jump l J Q) a w) : c.wp P (Exit.jump l J' Q) a w := by
  refine Code.wp_mono (fun e a w h => ?_) h
  cases e <;> first | exact h | exact ⟨h.1, hJ _ _ h.2⟩

theorem wp_scope_round {P : Program} {a : Act} {w : World} {Q : Exit → Act → World → Prop} {pre rest : Code} (l : Nat) (J : Act → World → Prop) (μ : Act → World → Nat)
    (hf : findLabel (pre.seq ((Code.label l).seq rest)) l = some (Code.skip.seq rest)) (hpre : pre.wp P (Exit.then J fun _ _ _ => False) a w)
    (pass : ∀ a w, J a w → ∀ (K : Act → World → Prop), (∀ a' w', J a' w' → μ a' w' < μ a w → K a' w') → rest.wp P (Exit.jump l K Q) a w) : (Code.scope (pre.seq ((Code.label l).seq rest))).wp P Q a w := by
  have pass' : ∀ a w, J a w → rest.wp P (Exit.jump l (fun a' w' => J a' w' ∧ μ a' w' < μ a w) Q) a w := fun a w h => pass a w h _ (fun a' w' h1 h2 => ⟨h1, h2⟩)
  refine wp_scope_jumps l J μ hf (wp_seq (Code.wp_mono (fun e a w h => ?_) hpre)) (fun a w h => wp_seq (wp_skip (pass' a w h)))
  cases e with
  | normal => exact wp_seq (wp_label (wp_jump_mono (fun _ _ h => And.left h) (pass' a w h)))
  | _ => exact h.elim

set_option maxRecDepth 1000000 in
set_option maxHeartbeats 8000000 in
theorem step_any (w : World) (g o B : Nat) (cv : Value) (at_ : Option Addr) (ct : Nat) (l : List Ins) (tk0 : Tk) (C0 : List Nat) (cs0 : Array Value) (hB : Blk w g 56 cs0) (hT : TkAt cs0 o (.slice at_ l.length ct) tk0) (hO : OwnU B w cv C0)
    (hg : ∀ q, cv.ownBlock = some q → q ≠ g) (hl : l.length ≤ 4096) (hct : l.length ≤ ct) (hok : ∀ x ∈ l, okI x l.length C0.length = true) (hC : C0.length ≤ 4096) (D : Nat) (hri : RdI w D at_ l) (hDg : D ≤ g) (hDB : D ≤ B) (hDw : D ≤ w.heap.size) :
    Calls Try.prog 27 #[.pointer (some ⟨g, o, none⟩), cv] w (StepPost w g o B cv (.slice at_ l.length ct) l tk0 C0 cs0) := by
  go_enter Try.func27, Try.ntmps27
  go_wp2
  refine wp_scope_round 0 (fun a' w' => ∃ left tk C cs, AtLabel g o cv a' left ∧ SJ w g o B cv (.slice at_ l.length ct) l tk0 C0 cs0 left tk C cs w') (fun a' _ => (intOf (a'.tmps.getD 4 undef)).toNat) rfl ?first ?pass
  case first =>
    go_step
    go_step
    go_step
    go_step
    go_step
    exact ⟨64, tk0, C0, cs0, ⟨rfl, rfl, rfl, rfl, 64, rfl, rfl⟩, ⟨Nat.le_refl _, hB, hT, SameOut.refl _ _, hO, Chg.refl _ _, rfl, rfl⟩⟩
  case pass =>
    clear hB hT
    rintro a wr ⟨left, tk, C, cs, hat, hle, hBk, htk, hout, hown, hchg, heq, hlen⟩ K hK
    obtain ⟨li, U, rfl, rfl⟩ := atLabel_frame hat
    clear hat
    have hd1 := done_any wr g o at_ l.length ct tk.pos (hBk.at o htk.hd) (hBk.at (o + 9) htk.pos)
    by_cases hdone : l.length ≤ tk.pos
    · rw [decide_eq_true hdone] at hd1
      go_wp2_with (go_at_call 26; refine hd1.mono ?_; rintro e w2 ⟨rfl, m, rfl⟩)
      simp only [Exit.jump]
      go_end0
      exact ⟨rfl, tk, C, cs, heq.trans (stepM_done hdone), hBk.drewN m, htk, hout, hown.chg ((Chg.refl [] wr).drewN m) (by simp), hchg.drewN m, hlen⟩
    rw [decide_eq_false hdone] at hd1
    cases left with
    | zero =>
      go_wp2_with (go_at_call 26; refine hd1.mono ?_; rintro e w2 ⟨rfl, m, rfl⟩)
      simp only [Exit.jump]
      go_end0
      exact ⟨rfl, tk, C, cs, heq, hBk.drewN m, htk, hout, hown.chg ((Chg.refl [] wr).drewN m) (by simp), hchg.drewN m, hlen⟩
    | succ f =>
      have hpl : tk.pos < l.length := by omega
      have hbD : Below D w wr := below_chg (Below.refl _ _) hchg hDw (fun q hq => by
        rcases List.mem_cons.1 hq with rfl | hq
        · exact hDg
        · exact Nat.le_trans hDB (below_own hown.1 q (Option.mem_toList.1 hq)))
      have hi1 : ¬ (((f + 1 : Nat) : Int) = 0) := by omega
      go_upto_region 2 with (go_at_call 26; refine hd1.mono ?_; rintro e w2 ⟨rfl, m, hw2⟩; have HW2 := Lib.hid hw2; clear hw2)
      have hw2 := HW2.out
      clear HW2
      have hbD : Below D w w2 := by rw [hw2]; exact below_drewN hbD m
      have hBk : Blk w2 g 56 cs := by rw [hw2]; exact hBk.drewN m
      have hown : OwnU B w2 cv C := by rw [hw2]; exact hown.chg ((Chg.refl [] wr).drewN m) (by simp)
      have hchg : Chg (g :: cv.ownBlock.toList) w w2 := by rw [hw2]; exact hchg.drewN m
      clear hw2 hd1
      obtain ⟨b, off, rfl, hbD2, r0, r1, r2, r3⟩ := (hri.below hbD) tk.pos hpl
      have hmem : l.getD tk.pos ins0 ∈ l := by rw [show l.getD tk.pos ins0 = l[tk.pos] by simp [List.getD, hpl]]; exact List.getElem_mem hpl
      obtain ⟨ha, hb, hk⟩ := okI_cases (hok _ hmem)
      generalize hxd : l.getD tk.pos ins0 = x at r0 r1 r2 r3 ha hb hk
      obtain ⟨xk, xa, xb, xn⟩ := x
      dsimp only at r0 r1 r2 r3 ha hb hk
      obtain ⟨A, rfl⟩ := Int.eq_ofNat_of_zero_le ha.1
      obtain ⟨E, rfl⟩ := Int.eq_ofNat_of_zero_le hb.1
      have hA8 : A < 8 := by omega
      have hE8 : E < 8 := by omega
      have c0 := hBk.at o htk.hd
      have c9 := hBk.at (o + 9) htk.pos
      have cA := hBk.at (o + 1 + A) (htk.reg A hA8)
      have cE := hBk.at (o + 1 + E) (htk.reg E hE8)
      have f9 := hBk.free (o + 9)
      have fA := hBk.free (o + 1 + A)
      have glt := hBk.lt
      have hA63 : tk.regs.getD A 0 < 18446744073709551616 := htk.lt A
      have hE63 : tk.regs.getD E 0 < 18446744073709551616 := htk.lt E
      have HXD := Lib.hid hxd
      have HEQ := Lib.hid heq
      have HB := Lib.hid hBk
      have HT := Lib.hid htk
      have HO := Lib.hid hown
      have HC := Lib.hid hchg
      have HU := Lib.hid hout
      have HL := Lib.hid hlen
      have HD := Lib.hid hdone
      have HG := Lib.hid hg
      clear hg hxd heq hBk htk hown hchg hout hlen hok hri hmem ha hb
      have bD := Nat.lt_of_lt_of_le hbD2 (Nat.le_trans hDw HC.out.size)
      have hpz : tk.pos < 4096 := by omega
      rcases hk with rfl | rfl | rfl | rfl | ⟨rfl, hn1, hn2⟩ | ⟨rfl, hn1, hn2⟩ | ⟨rfl, hn1, hn2⟩ | ⟨rfl, hn1, hn2⟩
      · have he : exec l tk C = (⟨tk.regs.set A (u64 xn), tk.pos + 1⟩, C, false) := by unfold exec; rw [HXD.out]; simp
        have HE := Lib.hid (HEQ.out.trans (stepM_go HD.out he))
        have uw := u64_wrap xn
        have ul := u64_lt xn
        generalize u64 xn = xu at uw ul HE he
        clear he
        go_region
        go_upto_region 8 with fail
        go_region
        go_wp2_with fail
        go_step3
        have hch : ∀ W, Chg [g] w2 W → Chg (g :: cv.ownBlock.toList) w W := fun W h => HC.out.trans h (fun q hq => .inl (by simp only [List.mem_singleton] at hq; simp [hq]))
        refine ⟨rfl, hK _ _ ⟨f, _, _, _, ⟨rfl, rfl, rfl, rfl, _, rfl, rfl⟩, ⟨by omega, (((HB.out.set (o + 9) _).set (o + 1 + A) _).alloc _).drew, ((HT.out.setPos (tk.pos + 1)).setReg hA8 ul), ((HU.out.set (by omega) (by omega) _).set (by omega) (by omega) _), HO.out.chg (l := [g]) (by (repeat first | with_reducible refine Chg.drew ?_ | with_reducible refine Chg.drewN ?_ _ | with_reducible refine Chg.alloc ?_ _ | with_reducible refine Chg.setCell ?_ (by first | exact .inl (by simp) | exact .inr (by dsimp only; omega)) _); exact Chg.refl _ _) (fun q hq => by simpa using HG.out q hq), hch _ (by (repeat first | with_reducible refine Chg.drew ?_ | with_reducible refine Chg.drewN ?_ _ | with_reducible refine Chg.alloc ?_ _ | with_reducible refine Chg.setCell ?_ (by first | exact .inl (by simp) | exact .inr (by dsimp only; omega)) _); exact Chg.refl _ _), HE.out, HL.out⟩⟩ (by show (f : Int).toNat < ((f + 1 : Nat) : Int).toNat; omega)⟩
      · have he : exec l tk C = (⟨tk.regs.set A (tk.regs.getD E 0), tk.pos + 1⟩, C, false) := by unfold exec; rw [HXD.out]; simp
        have HE := Lib.hid (HEQ.out.trans (stepM_go HD.out he))
        clear he
        go_region
        go_upto_region 10 with fail
        go_region
        go_wp2_with fail
        go_step3
        have hch : ∀ W, Chg [g] w2 W → Chg (g :: cv.ownBlock.toList) w W := fun W h => HC.out.trans h (fun q hq => .inl (by simp only [List.mem_singleton] at hq; simp [hq]))
        refine ⟨rfl, hK _ _ ⟨f, _, _, _, ⟨rfl, rfl, rfl, rfl, _, rfl, rfl⟩, ⟨by omega, (((HB.out.set (o + 9) _).set (o + 1 + A) _).alloc _).drew, ((HT.out.setPos (tk.pos + 1)).setReg hA8 hE63), ((HU.out.set (by omega) (by omega) _).set (by omega) (by omega) _), HO.out.chg (l := [g]) (by (repeat first | with_reducible refine Chg.drew ?_ | with_reducible refine Chg.drewN ?_ _ | with_reducible refine Chg.alloc ?_ _ | with_reducible refine Chg.setCell ?_ (by first | exact .inl (by simp) | exact .inr (by dsimp only; omega)) _); exact Chg.refl _ _) (fun q hq => by simpa using HG.out q hq), hch _ (by (repeat first | with_reducible refine Chg.drew ?_ | with_reducible refine Chg.drewN ?_ _ | with_reducible refine Chg.alloc ?_ _ | with_reducible refine Chg.setCell ?_ (by first | exact .inl (by simp) | exact .inr (by dsimp only; omega)) _); exact Chg.refl _ _), HE.out, HL.out⟩⟩ (by show (f : Int).toNat < ((f + 1 : Nat) : Int).toNat; omega)⟩
      · have he : exec l tk C = (⟨tk.regs.set A ((tk.regs.getD E 0 + u64 xn) % 18446744073709551616), tk.pos + 1⟩, C, false) := by unfold exec; rw [HXD.out]; simp
        have HE := Lib.hid (HEQ.out.trans (stepM_go HD.out he))
        have uw := u64_wrap xn
        have ul : (tk.regs.getD E 0 + u64 xn) % 18446744073709551616 < 18446744073709551616 := Nat.mod_lt _ (by omega)
        clear he
        go_region
        go_upto_region 12 with fail
        go_region
        go_wp2_with fail
        go_step3
        have hch : ∀ W, Chg [g] w2 W → Chg (g :: cv.ownBlock.toList) w W := fun W h => HC.out.trans h (fun q hq => .inl (by simp only [List.mem_singleton] at hq; simp [hq]))
        refine ⟨rfl, hK _ _ ⟨f, _, _, _, ⟨rfl, rfl, rfl, rfl, _, rfl, rfl⟩, ⟨by omega, (((HB.out.set (o + 9) _).set (o + 1 + A) _).alloc _).drew, ((HT.out.setPos (tk.pos + 1)).setReg hA8 ul), ((HU.out.set (by omega) (by omega) _).set (by omega) (by omega) _), HO.out.chg (l := [g]) (by (repeat first | with_reducible refine Chg.drew ?_ | with_reducible refine Chg.drewN ?_ _ | with_reducible refine Chg.alloc ?_ _ | with_reducible refine Chg.setCell ?_ (by first | exact .inl (by simp) | exact .inr (by dsimp only; omega)) _); exact Chg.refl _ _) (fun q hq => by simpa using HG.out q hq), hch _ (by (repeat first | with_reducible refine Chg.drew ?_ | with_reducible refine Chg.drewN ?_ _ | with_reducible refine Chg.alloc ?_ _ | with_reducible refine Chg.setCell ?_ (by first | exact .inl (by simp) | exact .inr (by dsimp only; omega)) _); exact Chg.refl _ _), HE.out, HL.out⟩⟩ (by show (f : Int).toNat < ((f + 1 : Nat) : Int).toNat; omega)⟩
      · have he : exec l tk C = (⟨tk.regs, l.length⟩, C, false) := by unfold exec; rw [HXD.out]; simp
        have HE := Lib.hid (HEQ.out.trans (stepM_go HD.out he))
        clear he
        go_region
        go_upto_region 6 with fail
        go_wp2_with fail
        go_step3
        have hch : ∀ W, Chg [g] w2 W → Chg (g :: cv.ownBlock.toList) w W := fun W h => HC.out.trans h (fun q hq => .inl (by simp only [List.mem_singleton] at hq; simp [hq]))
        refine ⟨rfl, hK _ _ ⟨f, _, _, _, ⟨rfl, rfl, rfl, rfl, _, rfl, rfl⟩, ⟨by omega, (((HB.out.set (o + 9) _).set (o + 9) _).alloc _).drew, ((HT.out.setPos (tk.pos + 1)).setPos l.length), ((HU.out.set (by omega) (by omega) _).set (by omega) (by omega) _), HO.out.chg (l := [g]) (by (repeat first | with_reducible refine Chg.drew ?_ | with_reducible refine Chg.drewN ?_ _ | with_reducible refine Chg.alloc ?_ _ | with_reducible refine Chg.setCell ?_ (by first | exact .inl (by simp) | exact .inr (by dsimp only; omega)) _); exact Chg.refl _ _) (fun q hq => by simpa using HG.out q hq), hch _ (by (repeat first | with_reducible refine Chg.drew ?_ | with_reducible refine Chg.drewN ?_ _ | with_reducible refine Chg.alloc ?_ _ | with_reducible refine Chg.setCell ?_ (by first | exact .inl (by simp) | exact .inr (by dsimp only; omega)) _); exact Chg.refl _ _), HE.out, HL.out⟩⟩ (by show (f : Int).toNat < ((f + 1 : Nat) : Int).toNat; omega)⟩
      · have he : exec l tk C = (⟨tk.regs.set A (C.getD xn.toNat 0), tk.pos + 1⟩, C, true) := by unfold exec; rw [HXD.out]; simp
        have HE := Lib.hid (HEQ.out.trans (stepM_acc HD.out he))
        clear he
        obtain ⟨N, rfl⟩ := Int.eq_ofNat_of_zero_le hn1
        have hNl : N < C.length := by rw [HL.out]; omega
        obtain ⟨gc, cap, rfl, hcap, hBg, hgc, cN, fC, hset⟩ := HO.out.at hNl
        have hne : gc ≠ g := HG.out gc rfl
        have hne' : g ≠ gc := fun h => hne h.symm
        have fN := fC N
        have hNi : (N : Int) < (C.length : Int) := by omega
        have hCN : C.getD N 0 < 18446744073709551616 := HO.out.2 N
        clear hset fC
        simp only [Int.toNat_natCast] at HE
        generalize hcn : C.getD N 0 = cn at cN hCN HE
        clear hcn
        have hra : tk.regs.getD A 0 < 18446744073709551616 := hA63
        generalize hrg : tk.regs.getD A 0 = ra at cA hra HE
        have HRG := Lib.hid hrg
        clear hrg
        go_region
        go_upto_region 14 with fail
        go_region
        go_wp2_with fail
        simp only [Exit.jump]
        go_end0
        have hch : ∀ W, Chg [g, gc] w2 W → Chg (g :: (Value.slice (some ⟨gc, 0, none⟩) C.length cap).ownBlock.toList) w W := fun W h => HC.out.trans h (fun q hq => .inl hq)
        exact ⟨rfl, _, _, _, HE.out, (((HB.out.set (o + 9) _).set (o + 1 + A) _).alloc _).drew, ((HT.out.setPos (tk.pos + 1)).setReg hA8 hCN), ((HU.out.set (by omega) (by omega) _).set (by omega) (by omega) _), HO.out.chg (l := [g]) (by (repeat first | with_reducible refine Chg.drew ?_ | with_reducible refine Chg.drewN ?_ _ | with_reducible refine Chg.alloc ?_ _ | with_reducible refine Chg.setCell ?_ (by first | exact .inl (by simp) | exact .inr (by dsimp only; omega)) _); exact Chg.refl _ _) (fun q hq => by simpa using HG.out q hq), hch _ (by (repeat first | with_reducible refine Chg.drew ?_ | with_reducible refine Chg.drewN ?_ _ | with_reducible refine Chg.alloc ?_ _ | with_reducible refine Chg.setCell ?_ (by first | exact .inl (by simp) | exact .inr (by dsimp only; omega)) _); exact Chg.refl _ _), by simpa using HL.out⟩
      · have he : exec l tk C = (⟨tk.regs, tk.pos + 1⟩, C.set xn.toNat (tk.regs.getD A 0), true) := by unfold exec; rw [HXD.out]; simp
        have HE := Lib.hid (HEQ.out.trans (stepM_acc HD.out he))
        clear he
        obtain ⟨N, rfl⟩ := Int.eq_ofNat_of_zero_le hn1
        have hNl : N < C.length := by rw [HL.out]; omega
        obtain ⟨gc, cap, rfl, hcap, hBg, hgc, cN, fC, hset⟩ := HO.out.at hNl
        have hne : gc ≠ g := HG.out gc rfl
        have hne' : g ≠ gc := fun h => hne h.symm
        have fN := fC N
        have hNi : (N : Int) < (C.length : Int) := by omega
        have hCN : C.getD N 0 < 18446744073709551616 := HO.out.2 N
        clear hset fC
        simp only [Int.toNat_natCast] at HE
        generalize hcn : C.getD N 0 = cn at cN hCN HE
        clear hcn
        have hra : tk.regs.getD A 0 < 18446744073709551616 := hA63
        generalize hrg : tk.regs.getD A 0 = ra at cA hra HE
        have HRG := Lib.hid hrg
        clear hrg
        go_region
        go_upto_region 16 with fail
        go_region
        go_wp2_with fail
        simp only [Exit.jump]
        go_end0
        have hch : ∀ W, Chg [g, gc] w2 W → Chg (g :: (Value.slice (some ⟨gc, 0, none⟩) C.length cap).ownBlock.toList) w W := fun W h => HC.out.trans h (fun q hq => .inl hq)
        exact ⟨rfl, _, _, _, HE.out, (((HB.out.set (o + 9) _).far hne' _).alloc _).drew, (HT.out.setPos (tk.pos + 1)), (HU.out.set (by omega) (by omega) _), ((OwnU.put (HO.out.chg (l := [g]) ((Chg.refl [g] w2).setCell (p := ⟨g, o + 9, none⟩) (.inl (by simp)) _) (fun q hq => by simpa using HG.out q hq)) hNl hra).new _).drew.drew, hch _ (by (repeat first | with_reducible refine Chg.drew ?_ | with_reducible refine Chg.drewN ?_ _ | with_reducible refine Chg.alloc ?_ _ | with_reducible refine Chg.setCell ?_ (by first | exact .inl (by simp) | exact .inr (by dsimp only; omega)) _); exact Chg.refl _ _), by simpa using HL.out⟩
      · have he : exec l tk C = if C.getD xn.toNat 0 = tk.regs.getD A 0 then (⟨tk.regs.set A 1, tk.pos + 1⟩, C.set xn.toNat (tk.regs.getD E 0), true) else (⟨tk.regs.set A 0, tk.pos + 1⟩, C, true) := by unfold exec; rw [HXD.out]; simp
        obtain ⟨N, rfl⟩ := Int.eq_ofNat_of_zero_le hn1
        rw [Int.toNat_natCast] at he
        have hNl : N < C.length := by rw [HL.out]; omega
        obtain ⟨gc, cap, rfl, hcap, hBg, hgc, cN, fC, hset⟩ := HO.out.at hNl
        have hne : gc ≠ g := HG.out gc rfl
        have hne' : g ≠ gc := fun h => hne h.symm
        have fN := fC N
        have hNi : (N : Int) < (C.length : Int) := by omega
        clear hset fC
        generalize C.getD N 0 = cn at cN he
        have hre : tk.regs.getD E 0 < 18446744073709551616 := hE63
        generalize tk.regs.getD A 0 = ra at cA he hA63
        generalize hrg : tk.regs.getD E 0 = re at cE hre he
        have HRG := Lib.hid hrg
        clear hrg
        by_cases h6 : cn = ra
        · rw [if_pos h6, show tk.regs.set A 1 = (tk.regs.set A 0).set A 1 by simp] at he
          have HE := Lib.hid (HEQ.out.trans (stepM_acc HD.out he))
          subst h6
          clear he
          go_region
          go_upto_region 18 with fail
          go_quiet (fail)
          go_upto_region 20 with fail
          go_region
          go_upto_region 21 with fail
          go_region
          go_upto_region 23 with fail
          go_region
          go_wp2_with fail
          simp only [Exit.jump]
          go_end0
          have hch : ∀ W, Chg [g, gc] w2 W → Chg (g :: (Value.slice (some ⟨gc, 0, none⟩) C.length cap).ownBlock.toList) w W := fun W h => HC.out.trans h (fun q hq => .inl hq)
          have hX : ∀ k, OwnU B (((w2.setCell ⟨g, o + 9, none⟩ (.int .i64 ((tk.pos : Int) + 1))).alloc (.cells #[.int .i64 6, .int .i64 (A : Int), .int .i64 (E : Int), .int .i64 (N : Int)] 50)).drewN k) (.slice (some ⟨gc, 0, none⟩) C.length cap) C := fun k => HO.out.chg (l := [g]) (by (repeat first | with_reducible refine Chg.drew ?_ | with_reducible refine Chg.drewN ?_ _ | with_reducible refine Chg.alloc ?_ _ | with_reducible refine Chg.setCell ?_ (by first | exact .inl (by simp) | exact .inr (by dsimp only; omega)) _); exact Chg.refl _ _) (fun q hq => by simpa using HG.out q hq)
          exact ⟨rfl, _, _, _, HE.out, (((((( HB.out.set (o + 9) _).alloc _).drewN _).far hne' _).set (o + 1 + A) _).set (o + 1 + A) _).drew, ((HT.out.setPos (tk.pos + 1)).setReg hA8 (x := 0) (by omega)).setReg hA8 (x := 1) (by omega), ((HU.out.set (by omega) (by omega) _).set (by omega) (by omega) _).set (by omega) (by omega) _,
            (OwnU.put (hX _) hNl hre).chg (l := [g]) ((((Chg.refl [g] _).setCell (p := ⟨g, o + 1 + A, none⟩) (.inl (by simp)) _).setCell (p := ⟨g, o + 1 + A, none⟩) (.inl (by simp)) _).drew.drew) (fun q hq => by simpa using HG.out q hq), hch _ (by (repeat first | with_reducible refine Chg.drew ?_ | with_reducible refine Chg.drewN ?_ _ | with_reducible refine Chg.alloc ?_ _ | with_reducible refine Chg.setCell ?_ (by first | exact .inl (by simp) | exact .inr (by dsimp only; omega)) _); exact Chg.refl _ _), by simpa using HL.out⟩
        · rw [if_neg h6] at he
          have HE := Lib.hid (HEQ.out.trans (stepM_acc HD.out he))
          have h6' : (((cn : Nat) : Int) == ((ra : Nat) : Int)) = false := by simp only [beq_eq_false_iff_ne]; omega
          clear he h6
          go_region
          go_upto_region 18 with fail
          go_quiet (fail)
          go_upto_region 21 with fail
          go_region
          go_wp2_with fail
          simp only [Exit.jump]
          go_end0
          have hch : ∀ W, Chg [g, gc] w2 W → Chg (g :: (Value.slice (some ⟨gc, 0, none⟩) C.length cap).ownBlock.toList) w W := fun W h => HC.out.trans h (fun q hq => .inl hq)
          exact ⟨rfl, _, _, _, HE.out, ((( HB.out.set (o + 9) _).alloc _).drewN _).set (o + 1 + A) _, (HT.out.setPos (tk.pos + 1)).setReg hA8 (x := 0) (by omega), (HU.out.set (by omega) (by omega) _).set (by omega) (by omega) _,
            HO.out.chg (l := [g]) (by (repeat first | with_reducible refine Chg.drew ?_ | with_reducible refine Chg.drewN ?_ _ | with_reducible refine Chg.alloc ?_ _ | with_reducible refine Chg.setCell ?_ (by first | exact .inl (by simp) | exact .inr (by dsimp only; omega)) _); exact Chg.refl _ _) (fun q hq => by simpa using HG.out q hq), hch _ (by (repeat first | with_reducible refine Chg.drew ?_ | with_reducible refine Chg.drewN ?_ _ | with_reducible refine Chg.alloc ?_ _ | with_reducible refine Chg.setCell ?_ (by first | exact .inl (by simp) | exact .inr (by dsimp only; omega)) _); exact Chg.refl _ _), by simpa using HL.out⟩
      · obtain ⟨N, rfl⟩ := Int.eq_ofNat_of_zero_le hn1
        by_cases hz : tk.regs.getD A 0 = 0
        · have he : exec l tk C = (⟨tk.regs, N⟩, C, false) := by unfold exec; rw [HXD.out]; have hz2 := hz; simp only [List.getD_eq_getElem?_getD] at hz2 ⊢; simp [hz2]
          have HE := Lib.hid (HEQ.out.trans (stepM_go HD.out he))
          rw [hz] at cA
          generalize tk.regs.getD A 0 = ra at *
          clear he hz
          go_region
          go_upto_region 25 with fail
          go_quiet (fail)
          go_wp2_with fail
          go_step3
          have hch : ∀ W, Chg [g] w2 W → Chg (g :: cv.ownBlock.toList) w W := fun W h => HC.out.trans h (fun q hq => .inl (by simp only [List.mem_singleton] at hq; simp [hq]))
          refine ⟨rfl, hK _ _ ⟨f, _, _, _, ⟨rfl, rfl, rfl, rfl, _, rfl, rfl⟩, ⟨by omega, (((HB.out.set (o + 9) _).alloc _).drewN _).set (o + 9) _, ((HT.out.setPos (tk.pos + 1)).setPos N), ((HU.out.set (by omega) (by omega) _).set (by omega) (by omega) _), HO.out.chg (l := [g]) (by (repeat first | with_reducible refine Chg.drew ?_ | with_reducible refine Chg.drewN ?_ _ | with_reducible refine Chg.alloc ?_ _ | with_reducible refine Chg.setCell ?_ (by first | exact .inl (by simp) | exact .inr (by dsimp only; omega)) _); exact Chg.refl _ _) (fun q hq => by simpa using HG.out q hq), hch _ (by (repeat first | with_reducible refine Chg.drew ?_ | with_reducible refine Chg.drewN ?_ _ | with_reducible refine Chg.alloc ?_ _ | with_reducible refine Chg.setCell ?_ (by first | exact .inl (by simp) | exact .inr (by dsimp only; omega)) _); exact Chg.refl _ _), HE.out, HL.out⟩⟩ (by show (f : Int).toNat < ((f + 1 : Nat) : Int).toNat; omega)⟩
        · have he : exec l tk C = (⟨tk.regs, tk.pos + 1⟩, C, false) := by unfold exec; rw [HXD.out]; have hz2 := hz; simp only [List.getD_eq_getElem?_getD] at hz2 ⊢; simp [hz2]
          have HE := Lib.hid (HEQ.out.trans (stepM_go HD.out he))
          have hzz : (((tk.regs.getD A 0 : Nat) : Int) == 0) = false := by simp only [beq_eq_false_iff_ne]; omega
          generalize tk.regs.getD A 0 = ra at *
          clear he hz
          go_region
          go_upto_region 25 with fail
          go_quiet (fail)
          go_wp2_with fail
          go_step3
          have hch : ∀ W, Chg [g] w2 W → Chg (g :: cv.ownBlock.toList) w W := fun W h => HC.out.trans h (fun q hq => .inl (by simp only [List.mem_singleton] at hq; simp [hq]))
          refine ⟨rfl, hK _ _ ⟨f, _, _, _, ⟨rfl, rfl, rfl, rfl, _, rfl, rfl⟩, ⟨by omega, ((HB.out.set (o + 9) _).alloc _).drew, (HT.out.setPos (tk.pos + 1)), (HU.out.set (by omega) (by omega) _), HO.out.chg (l := [g]) (by (repeat first | with_reducible refine Chg.drew ?_ | with_reducible refine Chg.drewN ?_ _ | with_reducible refine Chg.alloc ?_ _ | with_reducible refine Chg.setCell ?_ (by first | exact .inl (by simp) | exact .inr (by dsimp only; omega)) _); exact Chg.refl _ _) (fun q hq => by simpa using HG.out q hq), hch _ (by (repeat first | with_reducible refine Chg.drew ?_ | with_reducible refine Chg.drewN ?_ _ | with_reducible refine Chg.alloc ?_ _ | with_reducible refine Chg.setCell ?_ (by first | exact .inl (by simp) | exact .inr (by dsimp only; omega)) _); exact Chg.refl _ _), HE.out, HL.out⟩⟩ (by show (f : Int).toNat < ((f + 1 : Nat) : Int).toNat; omega)⟩


end Go.Proofs.Ytlcgighhiacnpaa
