/- Run of the document's machine by its contract; conditions: as what came in reads. -/
import Derived.Test.YtlcgighhiacnpaaWdRefStart
import Derived.Deep.DeepCutAuto
namespace Go.Proofs.Ytlcgighhiacnpaa
open Go.RowKit

set_option maxRecDepth 100000 in
set_option maxHeartbeats 4000000 in
theorem rrun_any (w : World) (ta ca pa : Option Addr) (tn tc cn cc pn pc : Nat) (T : List (List Ins)) (C : List Nat) (P : List Int) (hT : T.length = tn) (hC : C.length = cn) (hP : P.length = pn) (hln : tn ≤ 9223372036854775807 ∧ cn ≤ 9223372036854775807 ∧ pn ≤ 9223372036854775807)
    (hrt : RdT w w.heap.size ta T) (hrc : RdU w w.heap.size ca C) (hrp : RdN w w.heap.size pa P) :
    Calls Try.prog 14 #[.slice ta tn tc, .slice ca cn cc, .slice pa pn pc] w (RunPost w (runD T C P)) := by
  have hck : Calls Try.prog 12 #[.slice ta tn tc, .int .i64 cn] (w.alloc (.cells #[.slice none 0 0, .slice none 0 0, .slice none 0 0, .int .i64 0] 34)) fun e w' => e = .returned (tup3 (chk T C.length)) ∧ RefF w w' := by
    have hB := (hrt.below ((Below.refl _ w).alloc (Nat.le_refl _) (.cells #[.slice none 0 0, .slice none 0 0, .slice none 0 0, .int .i64 0] 34))).mono (B' := (w.alloc (.cells #[.slice none 0 0, .slice none 0 0, .slice none 0 0, .int .i64 0] 34)).heap.size) (by simp)
    have hck := rcheck_any _ ta tn tc T hT hln.1 hB cn
    rw [hC]
    exact hck.mono fun e w' ⟨h1, h2⟩ => ⟨h1, refF_start h2⟩
  unfold tup3 at hck
  have hone : (#[Value.slice none 0 0, .slice none 0 0, .slice none 0 0, .int .i64 0] : Array Value).all (·.oneCell') = true := by kernel_rfl
  by_cases h1 : (chk T C.length).2.2 = 0
  case neg =>
    have hr := runD_err (P := P) h1
    generalize chk T C.length = ck at hck hr h1
    obtain ⟨c1, c2, c3⟩ := ck
    dsimp only at h1 hr hck
    generalize runD T C P = R at hr ⊢
    subst hr
    clear hrt hrc hrp
    go_enter Try.func14, Try.ntmps14
    have hb : (c3 != 0) = true := by simpa using h1
    go_wp2_with (first
      | (go_at_call 12; refine hck.mono ?_; rintro e w2 ⟨rfl, rf⟩)
      | (refine wpList_store_blk rfl 34 _ _ rfl w.heap.size #[.slice none 0 0, .slice none 0 0, .slice none 0 0, .int .i64 0] rfl rfl rf.res row34 rfl hone ?_))
    refine bodyPost_ret (results_blk2 rfl _ _ w.heap.size rfl (rf.res.setRow _) row34) rfl ⟨.slice none 0 0, .slice none 0 0, .slice none 0 0, rfl, repAt_nil _ _, below_setRow rf.below (by omega) _⟩
  case pos =>
    have hok := chk_ok h1
    have hck2 := hck
    obtain ⟨c1, c2, hck⟩ : ∃ c1 c2 : Nat, Calls Try.prog 12 #[.slice ta tn tc, .int .i64 cn] (w.alloc (.cells #[.slice none 0 0, .slice none 0 0, .slice none 0 0, .int .i64 0] 34)) fun e w' => e = .returned (.tuple #[.int .i64 c1, .int .i64 c2, .int .i64 0]) ∧ RefF w w' := ⟨(chk T C.length).1, (chk T C.length).2.1, by rw [h1] at hck; exact hck⟩
    clear hck2
    have H1 := Lib.hid h1
    clear h1
    by_cases h2 : 1048576 < P.length
    · have hr := runD_long (T := T) (C := C) (P := P) H1.out h2
      rw [hP] at h2
      generalize runD T C P = R at hr ⊢
      subst hr
      clear hrt hrc hrp
      go_enter Try.func14, Try.ntmps14
      go_wp2_with (first
        | (go_at_call 12; refine hck.mono ?_; rintro e w2 ⟨rfl, rf⟩)
        | (refine wpList_store_blk rfl 34 _ _ rfl w.heap.size #[.slice none 0 0, .slice none 0 0, .slice none 0 0, .int .i64 0] rfl rfl rf.res row34 rfl hone ?_))
      refine bodyPost_ret (results_blk2 rfl _ _ w.heap.size rfl (rf.res.setRow _) row34) rfl ⟨.slice none 0 0, .slice none 0 0, .slice none 0 0, rfl, repAt_nil _ _, below_setRow rf.below (by omega) _⟩
    have hrest := runD_rest (T := T) (C := C) (P := P) H1.out h2
    rw [hT] at hrest
    have htn : tn ≤ 4096 := by have := hok.1; omega
    have hcn : cn ≤ 4096 := by have := hok.2.2.1; omega
    have HR := Lib.hid hrest
    have HOK := Lib.hid hok
    have HRT := Lib.hid hrt
    have HRC := Lib.hid hrc
    clear hrest hrt hrc hok
    rw [hP] at h2
    generalize runD T C P = R at HR ⊢
    go_enter Try.func14, Try.ntmps14
    go_wp2_with (first
      | (go_at_call 12; refine hck.mono ?_; rintro e w2 ⟨rfl, rf⟩))
    have HF := Lib.hid rf
    clear hck rf
    go_loopg [11] pn (fun gn i wr => ∃ k : Nat, k ≤ pn ∧ i = .int .i64 k ∧ gn = pn - k ∧ RefF w wr ∧ (P.any fun x => decide (x < 0 ∨ (tn : Int) ≤ x)) = (P.drop k).any fun x => decide (x < 0 ∨ (tn : Int) ≤ x))
    case atStart => exact ⟨0, Nat.zero_le _, rfl, rfl, HF.out, by rw [List.drop_zero]⟩
    case round =>
      clear HF
      obtain ⟨k, hk, rfl, rfl, rf, hany⟩ := hrel
      by_cases hkp : k < pn
      · have hkP : k < P.length := by omega
        have hkI : (k : Int) < (pn : Int) := by omega
        rw [drop_cons' hkP, List.any_cons] at hany
        obtain ⟨b, off, rfl, hb, hc0⟩ := hrp k hkP
        have hc := (rf.below.cell (p := ⟨b, _, none⟩) hb).trans hc0
        clear hc0
        generalize P.getD k 0 = x at hc hany
        have hsame : ∀ v : Value, (wr.cell? ⟨b, off + k, none⟩ = some v) → wr.cell? ⟨b, off + k, none⟩ = some v := fun _ h => h
        clear hsame
        by_cases hx : x < 0 ∨ (tn : Int) ≤ x
        · have hR := HR.out
          rw [hany, decide_eq_true hx, Bool.true_or] at hR
          dsimp only at hR
          have HR2 := Lib.hid hR
          have HF := Lib.hid rf
          have hres := rf.res
          clear hR hany rf
          rcases Decidable.em (x < 0) with hx0 | hx0
          · have hd : decide (x < 0) = true := decide_eq_true hx0
            go_wp2_with (refine wpList_store_blk rfl 34 _ _ rfl w.heap.size #[.slice none 0 0, .slice none 0 0, .slice none 0 0, .int .i64 0] rfl rfl hres row34 rfl hone ?_)
            refine bodyPost_ret (results_blk2 rfl _ _ w.heap.size rfl (hres.setRow _) row34) rfl ?_
            rw [HR2.out]
            exact ⟨.slice none 0 0, .slice none 0 0, .slice none 0 0, rfl, repAt_nil _ _, below_setRow HF.out.below (by omega) _⟩
          · have hx1 : (tn : Int) ≤ x := by omega
            have hd : decide (x < 0) = false := decide_eq_false hx0
            have hd2 : decide ((tn : Int) ≤ x) = true := decide_eq_true hx1
            go_wp2_with (refine wpList_store_blk rfl 34 _ _ rfl w.heap.size #[.slice none 0 0, .slice none 0 0, .slice none 0 0, .int .i64 0] rfl rfl hres row34 rfl hone ?_)
            refine bodyPost_ret (results_blk2 rfl _ _ w.heap.size rfl (hres.setRow _) row34) rfl ?_
            rw [HR2.out]
            exact ⟨.slice none 0 0, .slice none 0 0, .slice none 0 0, rfl, repAt_nil _ _, below_setRow HF.out.below (by omega) _⟩
        · have hx0 : ¬ x < 0 := fun h => hx (.inl h)
          have hx1 : ¬ (tn : Int) ≤ x := fun h => hx (.inr h)
          have hd : decide (x < 0) = false := decide_eq_false hx0
          have hd2 : decide ((tn : Int) ≤ x) = false := decide_eq_false hx1
          rw [decide_eq_false hx, Bool.false_or] at hany
          have HA := Lib.hid hany
          have HF := Lib.hid rf
          clear hany rf hx
          go_wp2_with fail
          go_roundg (pn - (k + 1))
          case rel => exact ⟨k + 1, by omega, by go_num, rfl, HF.out, HA.out⟩
          case measure => omega
      · obtain rfl : pn = k := by omega
        rw [List.drop_of_length_le (by omega), List.any_nil] at hany
        have hpick : ∀ k, k < P.length → 0 ≤ P.getD k 0 ∧ P.getD k 0 < (tn : Int) := fun k hk => by
          have := List.any_eq_false.1 hany (P.getD k 0) (by rw [List.getD, List.getElem?_eq_getElem hk]; exact List.getElem_mem _)
          simp only [decide_eq_true_eq] at this
          omega
        have hR := HR.out
        rw [hany] at hR
        dsimp only at hR
        have HR2 := Lib.hid hR
        have HF := Lib.hid rf
        have HPK := Lib.hid hpick
        have HRP := Lib.hid hrp
        clear hR hany rf HR hpick hrp
        have hsz := HF.out.size
        obtain ⟨i3, hi3, hz30, hz31, hz32⟩ := info_parts Try.info3
        have hmk3 : ∀ W, (Instr.makeSlice 24 (.int .i64 (tn : Int)) (.int .i64 (tn : Int))).run Try.prog W = .ok (.slice (some ⟨W.heap.size, 0, none⟩) tn tn) (W.alloc (.cells (madeCells #[.int .i64 0] tn) 3)) := fun W => by
          have := run_make (P := Try.prog) W 24 3 i3 (.int .i64 0) (by kernel_rfl) hi3 hz30 .i64 .i64 tn tn (by omega) (by omega) (by rw [hz32]; omega) (by omega)
          rw [hz31] at this
          simp only [Int.toNat_natCast, Nat.mul_one] at this
          exact this
        have HI := Lib.hid hi3
        clear hi3
        obtain ⟨i8, hi8, hz80, hz81, hz82⟩ := info_parts Try.info38
        obtain ⟨ib, hib, hzb0, hzb1, hzb2⟩ := info_parts Try.info4
        obtain ⟨ir, hir, hzr0, hzr1, hzr2⟩ := info_parts Try.info47
        have hmk4 : ∀ W, (Instr.makeSlice 32 (.int .i64 (tn : Int)) (.int .i64 (tn : Int))).run Try.prog W = .ok (.slice (some ⟨W.heap.size, 0, none⟩) tn tn) (W.alloc (.cells (madeCells #[.bool false] tn) 4)) := fun W => by
          have := run_make (P := Try.prog) W 32 4 ib (.bool false) (by kernel_rfl) hib hzb0 .i64 .i64 tn tn (by omega) (by omega) (by rw [hzb2]; omega) (by omega)
          rw [hzb1] at this
          simp only [Int.toNat_natCast, Nat.mul_one] at this
          exact this
        have hmk8 : ∀ W, (Instr.makeSlice 31 (.int .i64 (tn : Int)) (.int .i64 (tn : Int))).run Try.prog W = .ok (.slice (some ⟨W.heap.size, 0, none⟩) tn tn) (W.alloc (.cells (madeCells #[.int .u64 0, .int .u64 0, .int .u64 0, .int .u64 0, .int .u64 0, .int .u64 0, .int .u64 0, .int .u64 0] (tn * 8)) 47)) := fun W => by
          have := run_make (P := Try.prog) W 31 47 ir (.agg #[.int .u64 0, .int .u64 0, .int .u64 0, .int .u64 0, .int .u64 0, .int .u64 0, .int .u64 0, .int .u64 0]) (by kernel_rfl) hir hzr0 .i64 .i64 tn tn (by omega) (by omega) (by rw [hzr2]; omega) (by omega)
          rw [hzr1] at this
          simp only [Int.toNat_natCast] at this
          exact this
        have hbl : ∀ W, (Instr.buildSlice 23 0 #[]).run Try.prog W = .ok (.slice (some ⟨W.heap.size, 0, none⟩) 0 0) (W.alloc (.cells #[] 38)) := fun W => by kernel_rfl
        have HI8 := Lib.hid hi8
        have HIB := Lib.hid hib
        have HIR := Lib.hid hir
        clear hi8 hib hir
        go_upto_region 12 with fail
        have hM0 : Blk ((wr.alloc (.cells (madeCells #[.int .i64 0] tn) 3)).alloc (.cells #[.slice ta tn tc, .slice (some ⟨wr.heap.size, 0, none⟩) tn tn, .slice none 0 0, .slice none 0 0, .slice none 0 0, .int .i64 0] 61)) (wr.heap.size + 1) 61 #[.slice ta tn tc, .slice (some ⟨wr.heap.size, 0, none⟩) tn tn, .slice none 0 0, .slice none 0 0, .slice none 0 0, .int .i64 0] := Blk.new' _ _ _ (by simp)
        have hP0 : Blk ((wr.alloc (.cells (madeCells #[.int .i64 0] tn) 3)).alloc (.cells #[.slice ta tn tc, .slice (some ⟨wr.heap.size, 0, none⟩) tn tn, .slice none 0 0, .slice none 0 0, .slice none 0 0, .int .i64 0] 61)) wr.heap.size 3 (madeCells #[.int .i64 0] tn) := (Blk.new' _ _ _ rfl).alloc _
        have hF0 := (HF.out.alloc (.cells (madeCells #[.int .i64 0] tn) 3)).alloc (.cells #[.slice ta tn tc, .slice (some ⟨wr.heap.size, 0, none⟩) tn tn, .slice none 0 0, .slice none 0 0, .slice none 0 0, .int .i64 0] 61)
        generalize ((wr.alloc (.cells (madeCells #[.int .i64 0] tn) 3)).alloc (.cells #[.slice ta tn tc, .slice (some ⟨wr.heap.size, 0, none⟩) tn tn, .slice none 0 0, .slice none 0 0, .slice none 0 0, .int .i64 0] 61)) = W at hM0 hP0 hF0 ⊢
        obtain ⟨pb, hpb⟩ : ∃ pb, pb = wr.heap.size := ⟨_, rfl⟩
        obtain ⟨mb, hmb⟩ : ∃ mb, mb = wr.heap.size + 1 := ⟨_, rfl⟩
        have hpb1 : w.heap.size + 1 ≤ pb := by omega
        have hmb1 : w.heap.size + 1 ≤ mb := by omega
        have hpm : pb < mb := by omega
        rw [← hmb] at hM0 ⊢
        rw [← hpb] at hM0 hP0 ⊢
        have hmW := hM0.lt
        clear hmb hpb HF hsz hmk3
        have HCU : Hid (∀ k, C.getD k 0 < 18446744073709551616) := Lib.hid (rdU_lt HRC.out)
        have HM0 := Lib.hid hM0
        have HP0 := Lib.hid hP0
        have HF0 := Lib.hid hF0
        have f2 := hM0.free 2
        have f3 := hM0.free 3
        have f4 := hM0.free 4
        have f5 := hM0.free 5
        clear hP0 hF0
        go_cut [] (fun wx => ∃ rb db cv, MAt (w.heap.size + 1) mb pb rb db ta tn tc cv wx (rs0 T C) ∧ RefF w wx)
        case first =>
          go_region_law (first
            | (refine step_append_opt rfl (.tmp 62) (.tmp 63) 23 rfl (w.heap.size + 1) 38 i8 (.int .u64 0) 1 8 (by kernel_rfl) HI8.out hz80 hz81 hz82 rfl (by decide) _ 0 [] rfl ca cn cc (uvl C) rfl (by rw [uvl_len]; omega) (by intro u hu; obtain ⟨x, _, rfl⟩ := List.mem_map.1 hu; rfl) (by unfold maxLen; omega) (by omega) (own_blk0 (by (repeat first | with_reducible exact Blk.new' _ _ _ (by simp only [World.size_alloc, World.size_drew]) | with_reducible exact HM0.out | with_reducible apply Blk.alloc | with_reducible apply Blk.drew)) (by first | omega | (simp only [World.size_alloc, World.size_drew]; omega))) (HRC.out.newsW (by (repeat first | with_reducible refine Below.drew ?_ | with_reducible refine Below.alloc ?_ (by first | omega | (simp only [World.size_alloc, World.size_drew]; omega)) _); exact HF0.out.below)) (by first | omega | (simp only [World.size_alloc, World.size_drew]; omega)) ?_; intro ao7 cap7 w7 ho7 hg7; have c7 := chg_grown1 hg7; have m7 : Blk w7 mb 61 _ := Blk.chg (by (repeat first | with_reducible exact Blk.new' _ _ _ (by simp only [World.size_alloc, World.size_drew]) | with_reducible exact HM0.out | with_reducible apply Blk.alloc | with_reducible apply Blk.drew)) c7 (by simp only [List.mem_singleton]; omega); have p7 : Blk w7 pb 3 _ := Blk.chg (by (repeat first | with_reducible exact Blk.new' _ _ _ (by first | rfl | (simp only [World.size_alloc, World.size_drew])) | with_reducible exact HM0.out | with_reducible exact HP0.out | with_reducible apply Blk.alloc | with_reducible apply Blk.drew)) c7 (by simp only [List.mem_singleton]; omega); have r7 : RefF w w7 := HF0.out.chg (l := [_]) (Chg.trans (l := [_]) (by (repeat first | with_reducible refine Chg.drew ?_ | with_reducible refine Chg.alloc ?_ _ | with_reducible refine Chg.setCell ?_ (.inl (by simp)) _); exact Chg.refl _ _) c7 (fun k hk => .inl hk)) (by intro k hk; have hk := List.mem_singleton.1 hk; omega); have o7 : w7.ownsRow (w.heap.size + 1) 38 1 (.slice ao7 cn cap7) C.length (uvl C) := (by rw [hC]; simpa using ho7); have z7 := c7.size; have hm7 := m7.lt; have d72 : w7.cell? ⟨mb, 2, none⟩ = some (.slice none 0 0) := m7.at 2 rfl; have d73 : w7.cell? ⟨mb, 3, none⟩ = some (.slice none 0 0) := m7.at 3 rfl; have d74 : w7.cell? ⟨mb, 4, none⟩ = some (.slice none 0 0) := m7.at 4 rfl; have d75 : w7.cell? ⟨mb, 5, none⟩ = some (.int .i64 0) := m7.at 5 rfl; have f72 := m7.free 2; have f73 := m7.free 3; have f74 := m7.free 4; have f75 := m7.free 5))
          all_goals go_wp2_with fail
          all_goals go_meet
          all_goals
            simp only [World.size_alloc, World.size_drew] at z7
            have hcu := HCU.out
            have hX := fun X (hc : Chg [mb] w7 X) => own_chg o7 hc (fun g hg hm => own_ne o7 m7 (by decide) (by rw [hg, List.mem_singleton.1 hm]))
            have hY := fun X (hc : Chg [mb] w7 X) => r7.chg hc (by intro k hk; have hk := List.mem_singleton.1 hk; omega)
            refine' ⟨_, _, .slice ao7 cn cap7, mAt0 hT hcu ?zhm ?zhp ?zhr ?zhd (hX _ ?zc1) hmb1 hpb1 ?zb1 ?zb2, hY _ ?zc2⟩
            case zhm =>
              refine Blk.conv (by (repeat first | with_reducible exact m7 | with_reducible apply Blk.alloc | with_reducible apply Blk.set)) ?_
              exact rfl
            case zhp => (repeat first | with_reducible exact p7 | with_reducible exact Blk.new' _ _ _ (by first | rfl | (simp only [World.size_alloc, World.size_setCell])) | with_reducible apply Blk.alloc | with_reducible apply Blk.drew | (with_reducible apply Blk.far'; (focus (dsimp only; omega))) | exact Blk.chg (by (repeat first | with_reducible exact Blk.new' _ _ _ (by first | rfl | (simp only [World.size_alloc, World.size_drew])) | with_reducible exact HM0.out | with_reducible exact HP0.out | with_reducible apply Blk.alloc | with_reducible apply Blk.drew)) c7 (by simp only [List.mem_singleton]; omega))
            case zhr => (repeat first | with_reducible exact p7 | with_reducible exact Blk.new' _ _ _ (by first | rfl | (simp only [World.size_alloc, World.size_setCell])) | with_reducible apply Blk.alloc | with_reducible apply Blk.drew | (with_reducible apply Blk.far'; (focus (dsimp only; omega))) | exact Blk.chg (by (repeat first | with_reducible exact Blk.new' _ _ _ (by first | rfl | (simp only [World.size_alloc, World.size_drew])) | with_reducible exact HM0.out | with_reducible exact HP0.out | with_reducible apply Blk.alloc | with_reducible apply Blk.drew)) c7 (by simp only [List.mem_singleton]; omega))
            case zhd => (repeat first | with_reducible exact p7 | with_reducible exact Blk.new' _ _ _ (by first | rfl | (simp only [World.size_alloc, World.size_setCell])) | with_reducible apply Blk.alloc | with_reducible apply Blk.drew | (with_reducible apply Blk.far'; (focus (dsimp only; omega))) | exact Blk.chg (by (repeat first | with_reducible exact Blk.new' _ _ _ (by first | rfl | (simp only [World.size_alloc, World.size_drew])) | with_reducible exact HM0.out | with_reducible exact HP0.out | with_reducible apply Blk.alloc | with_reducible apply Blk.drew)) c7 (by simp only [List.mem_singleton]; omega))
            case zc1 =>
              (repeat first | with_reducible refine Chg.drew ?_ | with_reducible refine Chg.alloc ?_ _ | with_reducible refine Chg.setCell ?_ (.inl (by simp)) _)
              exact Chg.refl _ _
            case zc2 =>
              (repeat first | with_reducible refine Chg.drew ?_ | with_reducible refine Chg.alloc ?_ _ | with_reducible refine Chg.setCell ?_ (.inl (by simp)) _)
              exact Chg.refl _ _
            case zb1 => omega
            case zb2 => omega
        case rest =>
          obtain ⟨rb, db, cv, hM, rf⟩ := hcut
          have HOKT : Hid (∀ l ∈ T, l.length ≤ 4096 ∧ ∀ x ∈ l, okI x l.length (cn : Int) = true) := Lib.hid (by have := HOK.out.2.2.2; rw [hC] at this; exact this)
          have HM := Lib.hid hM
          have HF := Lib.hid rf
          clear hM rf HM0 HF0 f2 f3 f4 f5 hmW hpm
          go_wp2_with fail
          go_loopg [13] pn (fun gn i wx => ∃ (k : Nat) (s : RS), k ≤ pn ∧ i = .int .i64 k ∧ gn = pn - k ∧ MAt (w.heap.size + 1) mb pb rb db ta tn tc cv wx s ∧ RefF w wx ∧ runR T C P = (P.drop k).foldl (pickR T) s ∧ s.C.length = cn ∧ s.steps ≤ k)
          case atStart => exact ⟨0, _, Nat.zero_le _, rfl, rfl, HM.out, HF.out, by rw [List.drop_zero]; rfl, hC, Nat.zero_le _⟩
          case round =>
            clear HM HF
            obtain ⟨k, s, hk, rfl, rfl, hM, rf, hfold, hCl, hst⟩ := hrel
            by_cases hkp : k < pn
            · have hkP : k < P.length := by omega
              have hpick := HPK.out k hkP
              obtain ⟨q, hq⟩ : ∃ q : Nat, P.getD k 0 = (q : Int) := ⟨(P.getD k 0).toNat, by omega⟩
              have hqt : q < tn := by omega
              have hkI : (k : Int) < (pn : Int) := by omega
              obtain ⟨b, off, rfl, hb, hc0⟩ := HRP.out k hkP
              have hc := (rf.below.cell (p := ⟨b, _, none⟩) hb).trans hc0
              rw [hq] at hc
              rw [drop_consI hkP, List.foldl_cons, hq] at hfold
              have hrt1 : RdT wr w.heap.size ta T := HRT.out.below rf.below
              have hd := stopped_any wr (w.heap.size + 1) w.heap.size mb pb rb db ta tn tc cv T s hM hT hrt1 q hqt
              clear hc0 hq hkP hpick hrt1
              cases hs : stopR T s q with
              | true =>
                rw [pickR_stop hs] at hfold
                rw [hs] at hd
                have HN := Lib.hid (fun m => (⟨hM.chg0 ((Chg.refl [] wr).drewN m), rf.chg ((Chg.refl [] wr).drewN m) (by simp), hfold⟩ : MAt (w.heap.size + 1) mb pb rb db ta tn tc cv (wr.drewN m) s ∧ RefF w (wr.drewN m) ∧ runR T C P = (P.drop (k + 1)).foldl (pickR T) s))
                clear hM rf hfold hs
                go_wp2_with (go_at_call 28; refine hd.mono ?_; rintro e w5 ⟨rfl, m, rfl⟩)
                go_roundg (pn - (k + 1))
                case rel => exact ⟨k + 1, s, by omega, by go_num, rfl, (HN.out m).1, (HN.out m).2.1, (HN.out m).2.2, hCl, by omega⟩
                case measure => omega
              | false =>
                rw [pickR_go hs] at hfold
                rw [hs] at hd
                have hadd : IntKind.i64.wrap ((s.steps : Int) + 1) = ((s.steps + 1 : Nat) : Int) := by rw [IntKind.wrap_i64]; omega
                have hM1 := fun m => (hM.chg0 ((Chg.refl [] wr).drewN m)).setS (s.steps + 1)
                have hr1 := fun m => (rf.chg ((Chg.refl [] wr).drewN m) (by simp)).chg (l := [mb]) ((Chg.refl [mb] (wr.drewN m)).setCell (p := ⟨mb, 5, none⟩) (.inl (by simp)) (.int .i64 ((s.steps + 1 : Nat) : Int))) (by intro k hk; have hk := List.mem_singleton.1 hk; omega)
                have m5 : wr.cell? ⟨mb, 5, none⟩ = some (.int .i64 s.steps) := hM.m.at 5 rfl
                have g5 := hM.m.free 5
                have HM1 := Lib.hid hM1
                have HR1 := Lib.hid hr1
                have HFO := Lib.hid hfold
                clear hM rf hfold hs hM1 hr1
                go_wp2_with (go_at_call 28; refine hd.mono ?_; rintro e w5 ⟨rfl, m, rfl⟩)
                have HM2 := Lib.hid (HM1.out m)
                have HR2' := Lib.hid (HR1.out m)
                clear hd m5 g5 hadd hc
                go_loopg [15, 16] 64 (fun gn a i wx => ∃ (j : Nat) (acc : Bool) (s2 : RS), j ≤ 64 ∧ a = .bool acc ∧ i = .int .i64 j ∧ gn = 64 - j ∧ MAt (w.heap.size + 1) mb pb rb db ta tn tc cv wx s2 ∧ RefF w wx ∧ s2.C.length = cn ∧ s2.steps = s.steps + 1 ∧ stepR T 64 ⟨s.places, s.regs, s.done, s.C, s.steps + 1⟩ q = tgtR T q acc s2 (64 - j))
                case atStart => exact ⟨0, false, _, Nat.zero_le _, rfl, rfl, rfl, HM2.out, HR2'.out, hCl, rfl, rfl⟩
                case round =>
                  clear HM2 HR2' HM1 HR1
                  obtain ⟨j, acc, s2, hj, rfl, rfl, rfl, hM2, rf2, hC2, hst2, htg⟩ := hrel
                  cases acc with
                  | true =>
                    have HE := Lib.hid (⟨hM2, rf2, hC2, htg⟩ : MAt (w.heap.size + 1) mb pb rb db ta tn tc cv _ s2 ∧ RefF w _ ∧ s2.C.length = cn ∧ _ = s2)
                    clear hM2 rf2 hC2 htg
                    by_cases hj64 : j < 64
                    · have hjI : (j : Int) < 64 := by omega
                      go_wp2_with fail
                      go_roundg (pn - (k + 1))
                      case rel => exact ⟨k + 1, s2, by omega, by go_num, rfl, HE.out.1, HE.out.2.1, by rw [HFO.out, HE.out.2.2.2], HE.out.2.2.1, by omega⟩
                      case measure => omega
                    · have hjI : ¬ (j : Int) < 64 := by omega
                      go_wp2_with fail
                      go_roundg (pn - (k + 1))
                      case rel => exact ⟨k + 1, s2, by omega, by go_num, rfl, HE.out.1, HE.out.2.1, by rw [HFO.out, HE.out.2.2.2], HE.out.2.2.1, by omega⟩
                      case measure => omega
                  | false =>
                    by_cases hj64 : j < 64
                    · have hjI : (j : Int) < 64 := by omega
                      have hd2 := stopped_any wr (w.heap.size + 1) w.heap.size mb pb rb db ta tn tc cv T s2 hM2 hT (HRT.out.below rf2.below) q hqt
                      obtain ⟨f, hf⟩ : ∃ f, 64 - j = f + 1 := ⟨63 - j, by omega⟩
                      cases hs2 : stopR T s2 q with
                      | true =>
                        rw [hs2] at hd2
                        unfold tgtR at htg
                        dsimp only at htg
                        rw [stepR_stop hs2] at htg
                        have HE := Lib.hid (fun m => (⟨hM2.chg0 ((Chg.refl [] wr).drewN m), rf2.chg ((Chg.refl [] wr).drewN m) (by simp), hC2, htg⟩ : MAt (w.heap.size + 1) mb pb rb db ta tn tc cv (wr.drewN m) s2 ∧ RefF w (wr.drewN m) ∧ s2.C.length = cn ∧ _ = s2))
                        clear hM2 rf2 hC2 htg hs2 hf
                        go_wp2_with (go_at_call 28; refine hd2.mono ?_; rintro e w6 ⟨rfl, m, rfl⟩)
                        go_roundg (pn - (k + 1))
                        case rel => exact ⟨k + 1, s2, by omega, by go_num, rfl, (HE.out m).1, (HE.out m).2.1, by rw [HFO.out, (HE.out m).2.2.2], (HE.out m).2.2.1, by omega⟩
                        case measure => omega
                      | false =>
                        rw [hs2] at hd2
                        have hlt := stop_lt hs2
                        have hlT : (T.getD q []) ∈ T := by rw [List.getD, List.getElem?_eq_getElem (by omega)]; exact List.getElem_mem _
                        have hok2 := HOKT.out _ hlT
                        have hdo := fun m => do_any (wr.drewN m) (w.heap.size + 1) w.heap.size mb pb rb db ta tn tc cv T s2 q (hM2.chg0 ((Chg.refl [] wr).drewN m)) hT ((HRT.out.below rf2.below).below (below_drewN (Below.refl _ _) m)) (by omega) hqt htn hlt hok2.1 (by omega) (by rw [hC2]; exact hok2.2 _ (insR_mem hlt))
                        have hlen := doR_len T s2 q
                        obtain ⟨s3, b3, hb3⟩ : ∃ s3 b3, doR T s2 q = (s3, b3) := ⟨_, _, rfl⟩
                        rw [hb3] at hdo hlen
                        unfold DoPost at hdo
                        dsimp only at hdo hlen
                        have htg3 : stepR T 64 ⟨s.places, s.regs, s.done, s.C, s.steps + 1⟩ q = tgtR T q b3 s3 (64 - (j + 1)) := by
                          rw [htg, hf]
                          unfold tgtR
                          dsimp only
                          cases b3 with
                          | true => exact stepR_acc hs2 hb3
                          | false => rw [stepR_go hs2 hb3, show 64 - (j + 1) = f by omega]
                        have HT3 := Lib.hid htg3
                        have HRF := Lib.hid rf2
                        clear htg htg3 hs2 hb3 hf hok2 hlT hM2 rf2
                        go_wp2_with (first
                          | (go_at_call 29; refine hdo6.mono ?_; rintro e w7 ⟨rfl, hM7, hb7⟩)
                          | (go_at_call 28; refine hd2.mono ?_; rintro e w6 ⟨rfl, m, rfl⟩; have hdo6 := hdo m))
                        go_roundg (64 - (j + 1))
                        case rel => exact ⟨j + 1, b3, s3, by omega, rfl, by go_num, rfl, hM7, (HRF.out.chg ((Chg.refl [] wr).drewN m) (by simp)).bel hb7, by omega, by omega, HT3.out⟩
                        case measure => omega
                    · have hj2 : j = 64 := by omega
                      subst hj2
                      have htg2 : stepR T 64 ⟨s.places, s.regs, s.done, s.C, s.steps + 1⟩ q = s2 := htg
                      have HE := Lib.hid (⟨hM2, rf2, hC2, htg2⟩ : MAt (w.heap.size + 1) mb pb rb db ta tn tc cv _ s2 ∧ RefF w _ ∧ s2.C.length = cn ∧ _ = s2)
                      clear hM2 rf2 hC2 htg htg2
                      go_wp2_with fail
                      go_roundg (pn - (k + 1))
                      case rel => exact ⟨k + 1, s2, by omega, by go_num, rfl, HE.out.1, HE.out.2.1, by rw [HFO.out, HE.out.2.2.2], HE.out.2.2.1, by omega⟩
                      case measure => omega
            · obtain rfl : pn = k := by omega
              rw [List.drop_of_length_le (by omega), List.foldl_nil] at hfold
              have hR := HR2.out
              rw [hfold] at hR
              have HR3 := Lib.hid hR
              have hdl : s.done.length = tn := hM.dl
              have HM := Lib.hid (by rw [doneUp_zero]; exact hM : MAt (w.heap.size + 1) mb pb rb db ta tn tc cv wr (doneUp T s 0))
              have HF := Lib.hid rf
              have hdm : ¬ db = mb := Blk.ne hM.d hM.m (by decide)
              clear hM rf hfold hR HR2
              go_wp2_with fail
              go_loopg [17] tn (fun gn i wx => ∃ t : Nat, t ≤ tn ∧ i = .int .i64 t ∧ gn = tn - t ∧ MAt (w.heap.size + 1) mb pb rb db ta tn tc cv wx (doneUp T s t) ∧ RefF w wx)
              case atStart => exact ⟨0, Nat.zero_le _, rfl, rfl, HM.out, HF.out⟩
              case round =>
                clear HM HF
                obtain ⟨t, ht, rfl, rfl, hM, rf⟩ := hrel
                by_cases htt : t < tn
                · have htI : (t : Int) < (tn : Int) := by omega
                  have hd := stopped_any wr.drew (w.heap.size + 1) w.heap.size mb pb rb db ta tn tc cv T _ (hM.chg0 ((Chg.refl [] wr).drew)) hT (HRT.out.below rf.below.drew) t htt
                  rw [doneUp_stop (by omega)] at hd
                  have q0 : wr.drew.cell? ⟨mb, 4, none⟩ = some (.slice (some ⟨db, 0, none⟩) tn tn) := hM.m.drew.at 4 rfl
                  have ca := hM.at_d htt
                  have g4 := hM.d.free t
                  have HN := Lib.hid (fun m => (hM.chg0 ((Chg.refl [] wr).drewN m)).setD htt (stopR T s t))
                  have HF2 := Lib.hid (fun m => (rf.chg ((Chg.refl [] wr).drewN m) (by simp)).chg (l := [db]) ((Chg.refl [db] (wr.drewN m)).setCell (p := ⟨db, t, none⟩) (.inl (by simp)) (.bool (stopR T s t))) (by intro k hk; have hk := List.mem_singleton.1 hk; have := hM.hd; omega))
                  have HSU := Lib.hid (doneUp_succ (T := T) (s := s) (t := t) (by omega))
                  clear hM rf
                  generalize stopR T s t = bt at *
                  generalize (doneUp T s t).dn t = bo at ca
                  go_upto_region 27 with fail
                  go_region_held3 (fun w' => w'.cell? ⟨mb, 4, none⟩ = some (.slice (some ⟨db, 0, none⟩) tn tn)) (first | exact q0 | exact q1 | go_keep)
                    (first | (go_at_call 28; refine hd.mono ?_; rintro e w5 ⟨rfl, m, rfl⟩; have q1 : (wr.drew.drewN m).cell? ⟨mb, 4, none⟩ = some (.slice (some ⟨db, 0, none⟩) tn tn) := q0))
                  go_wp2_with fail
                  go_roundg (tn - (t + 1))
                  case rel =>
                    refine ⟨t + 1, by omega, by go_num, rfl, ?_, HF2.out (1 + m)⟩
                    rw [← HSU.out]
                    exact HN.out (1 + m)
                  case measure => omega
                · obtain rfl : t = tn := by omega
                  have hrep := hM.rep_at hT htn hdl (by omega) (X := #[cv, .slice (some ⟨rb, 0, none⟩) t t, .slice (some ⟨db, 0, none⟩) t t, .int .i64 s.steps])
                  have hone2 : (#[cv, .slice (some ⟨rb, 0, none⟩) t t, .slice (some ⟨db, 0, none⟩) t t, .int .i64 s.steps] : Array Value).all (·.oneCell') = true := by
                    obtain ⟨a1, b1, e1, _⟩ := own_form hM.own.1
                    rw [e1]
                    kernel_rfl
                  have hpt := hM.part
                  have hres := rf.res
                  have hbl := rf.below
                  have HRP2 := Lib.hid hrep
                  clear hM rf hrep
                  go_wp2_with (first
                    | (refine wpList_load_part rfl 34 _ rfl mb 2 rfl _ hpt row34 ?_)
                    | (refine wpList_store_blk rfl 34 _ _ rfl w.heap.size #[cv, .slice (some ⟨rb, 0, none⟩) t t, .slice (some ⟨db, 0, none⟩) t t, .int .i64 s.steps] rfl rfl hres row34 rfl hone2 ?_))
                  refine bodyPost_ret (results_blk2 rfl _ _ w.heap.size rfl (hres.setRow _) row34) rfl ?_
                  rw [HR3.out]
                  exact ⟨cv, .slice (some ⟨rb, 0, none⟩) t t, .slice (some ⟨db, 0, none⟩) t t, rfl, HRP2.out, below_setRow hbl (by omega) _⟩
end Go.Proofs.Ytlcgighhiacnpaa
