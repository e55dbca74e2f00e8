/- The walk of the law WordsIdle: picks of tasks that have stopped change nothing; conditions: as what came in reads. -/
import Derived.Test.YtlcgighhiacnpaaWdOpen
namespace Go.Proofs.Ytlcgighhiacnpaa
open Go.RowKit

set_option maxRecDepth 100000 in
set_option maxHeartbeats 2000000 in
theorem wordsIdle_any (w : World) (ta : Option Addr) (tn tc : Nat) (T : List (List Ins)) (hT : T.length = tn) (hlt : tn ≤ 9223372036854775807) (hrt : RdT w w.heap.size ta T)
    (ca : Option Addr) (cn cc : Nat) (C : List Nat) (hC : C.length = cn) (hlc : cn ≤ 9223372036854775807) (hrc : RdU w w.heap.size ca C)
    (pa : Option Addr) (pn pc : Nat) (P : List Int) (hP : P.length = pn) (hlp : pn ≤ 9223372036854775807) (hrp : RdN w w.heap.size pa P) :
    Calls Try.prog 7 #[.slice ta tn tc, .slice ca cn cc, .slice pa pn pc] w fun e w' => e = .returned (.bool true) ∧ Below w.heap.size w w' := by
  obtain ⟨i0, hi, hz0, hz1, hz2⟩ := info_parts Try.info3
  have HI := Lib.hid hi
  clear hi
  have hw := works_any
  generalize hx : runM T C P = x
  obtain ⟨R, c⟩ := x
  have hr := fun W (hb : Below w.heap.size w W) => run_open W ta ca pa tn tc cn cc pn pc T C P hT hC hP ⟨hlt, hlc, hlp⟩ ((hrt.below hb).mono hb.size) ((hrc.below hb).mono hb.size) ((hrp.below hb).mono hb.size) hx
  by_cases hc : c = 0
  · subst hc
    by_cases hl : pn ≤ 2000
    · obtain ⟨hd, hrun⟩ := idle_run hx (by omega)
      have hr2 := fun W (hb : Below w.heap.size w W) (qa : Option Addr) (qn qc : Nat) (hq : (P ++ idlePicks R.done R.done.length).length = qn) (hqn : qn ≤ 9223372036854775807) (hrq : RdN W W.heap.size qa (P ++ idlePicks R.done R.done.length)) =>
        run_open W ta ca qa tn tc cn cc qn qc T C (P ++ idlePicks R.done R.done.length) hT hC hq ⟨hlt, hlc, hqn⟩ ((hrt.below hb).mono hb.size) ((hrc.below hb).mono hb.size) hrq hrun
      have HP := Lib.hid hP
      clear hx hP hT hC hrt hrc hrun
      go_enter Try.func7, Try.ntmps7
      go_upto_region 6 with (first
        | (go_at_call 13; refine (hr _ b2).mono ?_; rintro e w3 ⟨ac, kc, ar, kr, ad, kd, rfl, hR, b3⟩)
        | (go_at_call 18; refine (hw _).mono ?_; rintro e w2 ⟨rfl, b2⟩))
      have hf := idleF_new b2 b3 hR
      have hs3 : w.heap.size ≤ w3.heap.size := Nat.le_trans b2.size b3.size
      generalize hW : w3.alloc (.cells #[.slice ac R.cells.length kc, .slice ar R.regs.length kr, .slice ad R.done.length kd, .int .i64 R.steps] 34) = w4 at hf ⊢
      generalize hG : w3.heap.size = g at hf hs3 ⊢
      have hb4 := hf.below.size
      have HF := Lib.hid hf
      have HRP := Lib.hid ((hrp.below hf.below).mono hf.below.size)
      clear hf hW hG hR b3 b2 hr hw hrp
      go_upto_region 7 with (at_builtin; refine wpList_append_to rfl (.tmp 43) (.tmp 44) 24 rfl w.heap.size 3 i0 (.int .i64 0) 1 8 Try.underlying24 HI.out hz0 hz1 hz2 rfl (by decide) _ 0 [] rfl (World.ownsRow_made w4 #[] 0 hb4 (Nat.zero_le _) rfl) pa pn pc (P.map (.int .i64)) rfl (by rw [List.length_map, HP.out, Nat.mul_one]) (HRP.out.news _) (ints_one P) pn (by omega) (P.map (.int .i64)) rfl (by unfold maxLen; omega) (by omega) (Nat.le_trans hb4 (by simp)) ?_; intro a6 k6 w5 hown hgr)
      have hf5 : IdleF w g (.slice ac R.cells.length kc) (.slice ar R.regs.length kr) (.slice ad R.done.length kd) R w5 :=
        (HF.out.alloc _).grown (B := w.heap.size) (e := 3) (z := 1) (World.ownsRow_made w4 #[] 0 hb4 (Nat.zero_le _) rfl) (Nat.le_refl _) (by decide) hgr
      have c2 := hf5.box.at 2 rfl
      clear HF HRP hgr hb4
      have HF := Lib.hid hf5
      clear hf5
      go_wp2_with fail
      clear c2
      have hd2 := hd
      go_loopg [9, 49] R.done.length (fun gn mv i wr => ∃ (t N : Nat) (a : Option Addr) (k : Nat), t ≤ R.done.length ∧ i = .int .i64 t ∧ gn = R.done.length - t ∧ mv = .slice a N k ∧ N = (P ++ idlePicks R.done t).length ∧
        wr.ownsRow w.heap.size 3 1 (.slice a N k) N ((P ++ idlePicks R.done t).map (.int .i64)) ∧ IdleF w g (.slice ac R.cells.length kc) (.slice ar R.regs.length kr) (.slice ad R.done.length kd) R wr)
      case atStart => exact ⟨0, pn, a6, k6, Nat.zero_le _, rfl, rfl, rfl, by simp [idlePicks, HP.out], by simpa [idlePicks] using hown, HF.out⟩
      case round =>
        clear hown HF
        obtain ⟨t, N, a, k, ht, rfl, rfl, rfl, hN, hown, hf⟩ := hrel
        have HN := Lib.hid hN
        have HO := Lib.hid hown
        have HF := Lib.hid hf
        have hNb : N ≤ 2000 + 2 * 4096 := by
          have := idle_len R.done t
          rw [hN, List.length_append, HP.out]
          omega
        have hwr := hf.below.size
        by_cases htD : t < R.done.length
        · obtain ⟨bd, e1, _, hbd, hcd⟩ := own_rd hf.rep.done t (.bool (R.done.getD t false)) (by simp [List.getD, htD])
          subst e1
          have hmb := hf.rep.steps
          clear hN hown hf
          cases hdt : R.done.getD t false with
          | true =>
            have HD := Lib.hid hdt
            rw [hdt] at hcd
            clear hdt
            go_wp2_with (at_builtin; refine wpList_append_to rfl (.tmp 55) (.tmp 58) 24 rfl w.heap.size 3 i0 (.int .i64 0) 1 8 Try.underlying24 HI.out hz0 hz1 hz2 rfl (by decide) _ N _ rfl (HO.out.alloc _) (some ⟨wr.heap.size, 0, none⟩) 2 2 [.int .i64 t, .int .i64 t] rfl rfl (news_blk (Blk.new _ 3 _)) (by intro u hu; simp at hu; subst hu; rfl) (N + 2) rfl ((P ++ idlePicks R.done (t + 1)).map (.int .i64)) (by rw [idle_true HD.out]; simp) (by unfold maxLen; omega) (by omega) (Nat.le_trans hwr (by simp)) ?_; intro a7 k7 w7 hown7 hgr7)
            go_roundg (R.done.length - (t + 1))
            case rel => exact ⟨t + 1, N + 2, a7, k7, by omega, by go_num, rfl, rfl, by rw [idle_true HD.out, HN.out]; simp; omega, hown7, (HF.out.alloc _).grown (HO.out.alloc _) (Nat.le_refl _) (by decide) hgr7⟩
            case measure => omega
          | false =>
            have HD := Lib.hid hdt
            rw [hdt] at hcd
            clear hdt
            go_wp2_with fail
            go_roundg (R.done.length - (t + 1))
            case rel => exact ⟨t + 1, N, a, k, by omega, by go_num, rfl, rfl, by rw [idle_false HD.out]; exact HN.out, by rw [idle_false HD.out]; exact HO.out, HF.out⟩
            case measure => omega
        · obtain rfl : t = R.done.length := by omega
          clear hN hown hf
          have hrd := OwnN.rd' HO.out
          have hr3 := hr2 wr HF.out.below a N k HN.out.symm (by omega) hrd
          clear hr2
          go_upto_region 14 with (go_at_call 13; refine hr3.mono ?_; rintro e w8 ⟨ac2, kc2, ar2, kr2, ad2, kd2, rfl, hR2, b8⟩)
          have hfx := (HF.out.below' b8).alloc (.cells #[.slice ac2 R.cells.length kc2, .slice ar2 R.regs.length kr2, .slice ad2 R.done.length kd2, .int .i64 R.steps] 34)
          have hfy := idleF_new HF.out.below b8 hR2
          have hmx := own_max hfx.rep.cells.1
          have hsw := sameWords_any (w8.alloc (.cells #[.slice ac2 R.cells.length kc2, .slice ar2 R.regs.length kr2, .slice ad2 R.done.length kd2, .int .i64 R.steps] 34)) ac ac2 _ _ kc kc2 R.cells R.cells rfl rfl ⟨hmx, hmx⟩ hfx.rep.cells.rd hfy.rep.cells.rd
          rw [decide_eq_true rfl] at hsw
          have x0 := hfx.box.at 0 rfl
          have x3 := hfx.box.at 3 rfl
          have y0 := hfy.box.at 0 rfl
          have y3 := hfy.box.at 3 rfl
          have HB := Lib.hid hfx.below
          clear hfx hfy hR2 b8 hr3 hrd
          go_wp2_with (go_at_call 16; refine hsw.mono ?_; rintro e w10 ⟨rfl, q, rfl⟩)
          go_ret
          exact ⟨rfl, below_drewN HB.out _⟩
    · have hl' : (2000 : Int) < (pn : Int) := by omega
      clear hx hP hT hC hrt hrc
      go_enter Try.func7, Try.ntmps7
      go_wp2_with (first
        | (go_at_call 13; refine (hr _ b2).mono ?_; rintro e w3 ⟨ac, kc, ar, kr, ad, kd, rfl, hR, b3⟩)
        | (go_at_call 18; refine (hw _).mono ?_; rintro e w2 ⟨rfl, b2⟩))
      go_ret
      exact ⟨rfl, (b2.trans (b3.mono b2.size)).alloc (Nat.le_trans b2.size b3.size) _⟩
  · have hR0 := runM_err0 hx hc
    subst hR0
    have h1 : (c != 0) = true := by simpa using hc
    have h2 : (c == 0) = false := by simpa using hc
    clear hx hP hT hC hrt hrc hc
    go_enter Try.func7, Try.ntmps7
    go_wp2_with (first
      | (go_at_call 13; refine (hr _ b2).mono ?_; rintro e w3 ⟨ac, kc, ar, kr, ad, kd, rfl, hR, b3⟩)
      | (go_at_call 18; refine (hw _).mono ?_; rintro e w2 ⟨rfl, b2⟩))
    go_ret
    exact ⟨rfl, (b2.trans (b3.mono b2.size)).alloc (Nat.le_trans b2.size b3.size) _⟩

end Go.Proofs.Ytlcgighhiacnpaa
