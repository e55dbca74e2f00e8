/- Insert and Remove of package node, each by its contract; conditions: a word is below 2 to the 64. -/
import Derived.Test.YthplnecnagbedaaNtCheck
import Derived.Test.YthplnecnagbedaaNtMvPure
namespace Go.Proofs.Ythplnecnagbedaa
open Go.RowKit

theorem apartL (w : World) (x : Nat) (hx : x < 18446744073709551616) : Calls Try.prog 53 #[.int .u64 x] w fun e w' => e = .returned (.agg (pv (x % 16 :: slotsL x))) ∧ Below w.heap.size w w' := apart_any w x hx

set_option maxRecDepth 100000 in
set_option maxHeartbeats 2000000 in
theorem insert_any (w : World) (x : Nat) (hx : x < 18446744073709551616) (p : Int) : Calls Try.prog 15 #[.int .u64 x, .int .i64 p] w fun e w' => e = .returned (res3 (insOut x p)) ∧ Below w.heap.size w w' := by
  have hC := check_any w x hx
  have hA := fun W => apartL W x hx
  have hl := slots_len x
  have hu : x % 16 < 16 := Nat.mod_lt _ (by omega)
  have hout : insOut x p = if OkL (slotsL x) then if x % 16 = 15 then (0, 0, 120) else if p < 0 ∨ ((x % 16 : Nat) : Int) < p then (0, 0, 1) else (wordL (x % 16 + 1) (mvL (slotsL x) (x % 16) p.toNat), (slotsL x).getD (x % 16) 0, 0) else (0, 0, 4) := rfl
  unfold chkE at hC
  generalize insOut x p = out at hout ⊢
  generalize slotsL x = l at hC hA hl hout
  generalize x % 16 = u at hA hu hout
  by_cases hok : OkL l
  · rw [if_pos hok] at hC hout
    have hsz : (pv (u :: l)).size = 16 := by rw [pv_size, List.length_cons, hl]
    have hr := row87
    rw [← hsz] at hr
    have hone := pv_one (u :: l)
    have hd : ∀ d ∈ l, d < 15 := hok.2
    by_cases h15 : u = 15
    · rw [if_pos h15] at hout
      subst hout
      have h15' : ((u : Int) == 15) = true := by simp; omega
      clear h15
      go_enter Try.func15, Try.ntmps15
      go_upto_region 5 with (first
        | (refine wpList_store_blk rfl 87 _ _ rfl w2.heap.size (pv (u :: l)) rfl rfl (Blk.new w2 87 _) hr (by rw [hsz]; rfl) hone ?_; have B := (Blk.new w2 87 #[Value.int .i64 0, Value.int .i64 0, Value.int .i64 0, Value.int .i64 0, Value.int .i64 0, Value.int .i64 0, Value.int .i64 0, Value.int .i64 0, Value.int .i64 0, Value.int .i64 0, Value.int .i64 0, Value.int .i64 0, Value.int .i64 0, Value.int .i64 0, Value.int .i64 0, Value.int .i64 0]).setRow (pv (u :: l)); have bb := below_setRow ((b1.trans (b2.mono b1.size)).alloc (b1.trans (b2.mono b1.size)).size (Obj.cells #[Value.int .i64 0, Value.int .i64 0, Value.int .i64 0, Value.int .i64 0, Value.int .i64 0, Value.int .i64 0, Value.int .i64 0, Value.int .i64 0, Value.int .i64 0, Value.int .i64 0, Value.int .i64 0, Value.int .i64 0, Value.int .i64 0, Value.int .i64 0, Value.int .i64 0, Value.int .i64 0] 87)) (b1.trans (b2.mono b1.size)).size (pv (u :: l)); have zz := (b1.trans (b2.mono b1.size)).size)
        | (go_at_call 53; refine (hA _).mono ?_; rintro e w2 ⟨rfl, b2⟩)
        | (go_at_call 21; refine hC.mono ?_; rintro e w1 ⟨rfl, b1⟩))
      have c0 := B.at 0 (pv_get (x := u) rfl)
      clear B
      go_wp2_with fail
      go_ret3
      exact ⟨rfl, bb⟩
    · rw [if_neg h15] at hout
      have h15' : ((u : Int) == 15) = false := by simp; omega
      by_cases hp : p < 0 ∨ (u : Int) < p
      · rw [if_pos hp] at hout
        subst hout
        go_enter Try.func15, Try.ntmps15
        go_upto_region 5 with (first
          | (refine wpList_store_blk rfl 87 _ _ rfl w2.heap.size (pv (u :: l)) rfl rfl (Blk.new w2 87 _) hr (by rw [hsz]; rfl) hone ?_; have B := (Blk.new w2 87 #[Value.int .i64 0, Value.int .i64 0, Value.int .i64 0, Value.int .i64 0, Value.int .i64 0, Value.int .i64 0, Value.int .i64 0, Value.int .i64 0, Value.int .i64 0, Value.int .i64 0, Value.int .i64 0, Value.int .i64 0, Value.int .i64 0, Value.int .i64 0, Value.int .i64 0, Value.int .i64 0]).setRow (pv (u :: l)); have bb := below_setRow ((b1.trans (b2.mono b1.size)).alloc (b1.trans (b2.mono b1.size)).size (Obj.cells #[Value.int .i64 0, Value.int .i64 0, Value.int .i64 0, Value.int .i64 0, Value.int .i64 0, Value.int .i64 0, Value.int .i64 0, Value.int .i64 0, Value.int .i64 0, Value.int .i64 0, Value.int .i64 0, Value.int .i64 0, Value.int .i64 0, Value.int .i64 0, Value.int .i64 0, Value.int .i64 0] 87)) (b1.trans (b2.mono b1.size)).size (pv (u :: l)); have zz := (b1.trans (b2.mono b1.size)).size)
          | (go_at_call 53; refine (hA _).mono ?_; rintro e w2 ⟨rfl, b2⟩)
          | (go_at_call 21; refine hC.mono ?_; rintro e w1 ⟨rfl, b1⟩))
        have c0 := B.at 0 (pv_get (x := u) rfl)
        clear B
        rcases hp with hp | hp
        · go_wp2_with fail
          go_ret3
          exact ⟨rfl, bb⟩
        · have hp' : ¬ p < 0 := by omega
          go_wp2_with fail
          go_ret3
          exact ⟨rfl, bb⟩
      · rw [if_neg hp] at hout
        obtain ⟨k, rfl⟩ := Int.eq_ofNat_of_zero_le (show 0 ≤ p by omega)
        rw [Int.toNat_natCast] at hout
        have hk : k ≤ u := by omega
        have h1 : u < l.length := by omega
        have h2 : k < l.length := by omega
        have hmv := okL_mv h1 h2 hok
        have hml := mv_len h1 h2
        rw [hl] at hml
        have hM := fun W b B => move_any W b u l u k hl (by omega) (by omega) B
        generalize mvL l u k = l2 at hmv hml hM hout
        generalize l.getD u 0 = d at hM hout
        have hsz2 : (pv ((u + 1) :: l2)).size = 16 := by rw [pv_size, List.length_cons, hml]
        have hr2 := row87
        rw [← hsz2] at hr2
        have hWd := fun W => word_any W (u + 1) l2 hml (by omega) (fun x hx => Nat.lt_trans (hmv.2 x hx) (by omega))
        go_enter Try.func15, Try.ntmps15
        go_upto_region 5 with (first
          | (refine wpList_store_blk rfl 87 _ _ rfl w2.heap.size (pv (u :: l)) rfl rfl (Blk.new w2 87 _) hr (by rw [hsz]; rfl) hone ?_; have B := (Blk.new w2 87 #[Value.int .i64 0, Value.int .i64 0, Value.int .i64 0, Value.int .i64 0, Value.int .i64 0, Value.int .i64 0, Value.int .i64 0, Value.int .i64 0, Value.int .i64 0, Value.int .i64 0, Value.int .i64 0, Value.int .i64 0, Value.int .i64 0, Value.int .i64 0, Value.int .i64 0, Value.int .i64 0]).setRow (pv (u :: l)); have bb := below_setRow ((b1.trans (b2.mono b1.size)).alloc (b1.trans (b2.mono b1.size)).size (Obj.cells #[Value.int .i64 0, Value.int .i64 0, Value.int .i64 0, Value.int .i64 0, Value.int .i64 0, Value.int .i64 0, Value.int .i64 0, Value.int .i64 0, Value.int .i64 0, Value.int .i64 0, Value.int .i64 0, Value.int .i64 0, Value.int .i64 0, Value.int .i64 0, Value.int .i64 0, Value.int .i64 0] 87)) (b1.trans (b2.mono b1.size)).size (pv (u :: l)); have zz := (b1.trans (b2.mono b1.size)).size)
          | (go_at_call 53; refine (hA _).mono ?_; rintro e w2 ⟨rfl, b2⟩)
          | (go_at_call 21; refine hC.mono ?_; rintro e w1 ⟨rfl, b1⟩))
        have c0 := B.at 0 (pv_get (x := u) rfl)
        go_upto_region 10 with (go_at_call 54; refine (hM _ _ B).mono ?_; rintro e w3 ⟨rfl, B3, b3⟩; have c1 := B3.at 0 (pv_get (x := u) rfl); have f1 := B3.free 0)
        have B4 : Blk (w3.setCell ⟨w2.heap.size, 0, none⟩ (.int .i64 ((u : Int) + 1))) w2.heap.size 87 (pv ((u + 1) :: l2)) := by
          have := B3.set 0 (.int .i64 ((u + 1 : Nat) : Int))
          rw [pv_set] at this
          exact this
        have b4 := (bb.trans (b3.mono zz)).setCell (p := ⟨w2.heap.size, 0, none⟩) zz (.int .i64 ((u : Int) + 1))
        go_wp2_with (first
          | (go_at_call 55; refine (hWd _).mono ?_; rintro e w5 ⟨rfl, b5⟩)
          | (refine wpList_load_blk rfl 87 _ rfl w2.heap.size rfl B4 hr2 ?_))
        go_ret3
        subst hout
        exact ⟨rfl, b4.trans (b5.mono b4.size)⟩
  · rw [if_neg hok] at hC hout
    subst hout
    go_enter Try.func15, Try.ntmps15
    go_wp2_with (go_at_call 21; refine hC.mono ?_; rintro e w1 ⟨rfl, b1⟩)
    go_ret3
    exact ⟨rfl, b1⟩

set_option maxRecDepth 100000 in
set_option maxHeartbeats 2000000 in
theorem remove_any (w : World) (x : Nat) (hx : x < 18446744073709551616) (p : Int) : Calls Try.prog 17 #[.int .u64 x, .int .i64 p] w fun e w' => e = .returned (res3 (remOut x p)) ∧ Below w.heap.size w w' := by
  have hC := check_any w x hx
  have hA := fun W => apartL W x hx
  have hl := slots_len x
  have hu : x % 16 < 16 := Nat.mod_lt _ (by omega)
  have hout : remOut x p = if OkL (slotsL x) then if p < 0 ∨ ((x % 16 : Nat) : Int) ≤ p then (0, 0, 1) else (wordL (x % 16 - 1) (mvL (slotsL x) p.toNat (x % 16 - 1)), (slotsL x).getD p.toNat 0, 0) else (0, 0, 4) := rfl
  unfold chkE at hC
  generalize remOut x p = out at hout ⊢
  generalize slotsL x = l at hC hA hl hout
  generalize x % 16 = u at hA hu hout
  by_cases hok : OkL l
  · rw [if_pos hok] at hC hout
    have hsz : (pv (u :: l)).size = 16 := by rw [pv_size, List.length_cons, hl]
    have hr := row87
    rw [← hsz] at hr
    have hone := pv_one (u :: l)
    have hd : ∀ d ∈ l, d < 15 := hok.2
    by_cases hp : p < 0 ∨ (u : Int) ≤ p
    · rw [if_pos hp] at hout
      subst hout
      go_enter Try.func17, Try.ntmps17
      go_upto_region 5 with (first
        | (refine wpList_store_blk rfl 87 _ _ rfl w2.heap.size (pv (u :: l)) rfl rfl (Blk.new w2 87 _) hr (by rw [hsz]; rfl) hone ?_; have B := (Blk.new w2 87 #[Value.int .i64 0, Value.int .i64 0, Value.int .i64 0, Value.int .i64 0, Value.int .i64 0, Value.int .i64 0, Value.int .i64 0, Value.int .i64 0, Value.int .i64 0, Value.int .i64 0, Value.int .i64 0, Value.int .i64 0, Value.int .i64 0, Value.int .i64 0, Value.int .i64 0, Value.int .i64 0]).setRow (pv (u :: l)); have bb := below_setRow ((b1.trans (b2.mono b1.size)).alloc (b1.trans (b2.mono b1.size)).size (Obj.cells #[Value.int .i64 0, Value.int .i64 0, Value.int .i64 0, Value.int .i64 0, Value.int .i64 0, Value.int .i64 0, Value.int .i64 0, Value.int .i64 0, Value.int .i64 0, Value.int .i64 0, Value.int .i64 0, Value.int .i64 0, Value.int .i64 0, Value.int .i64 0, Value.int .i64 0, Value.int .i64 0] 87)) (b1.trans (b2.mono b1.size)).size (pv (u :: l)); have zz := (b1.trans (b2.mono b1.size)).size)
        | (go_at_call 53; refine (hA _).mono ?_; rintro e w2 ⟨rfl, b2⟩)
        | (go_at_call 21; refine hC.mono ?_; rintro e w1 ⟨rfl, b1⟩))
      have c0 := B.at 0 (pv_get (x := u) rfl)
      clear B
      rcases hp with hp | hp
      · go_wp2_with fail
        go_ret3
        exact ⟨rfl, bb⟩
      · have hp' : ¬ p < 0 := by omega
        go_wp2_with fail
        go_ret3
        exact ⟨rfl, bb⟩
    · rw [if_neg hp] at hout
      obtain ⟨k, rfl⟩ := Int.eq_ofNat_of_zero_le (show 0 ≤ p by omega)
      rw [Int.toNat_natCast] at hout
      have hk : k < u := by omega
      have h1 : k < l.length := by omega
      have h2 : u - 1 < l.length := by omega
      have hmv := okL_mv h1 h2 hok
      have hml := mv_len h1 h2
      rw [hl] at hml
      have hM := fun W b B => move_any W b (u - 1) l k (u - 1) hl (by omega) (by omega) B
      have hui : ((u - 1 : Nat) : Int) = (u : Int) - 1 := by omega
      generalize mvL l k (u - 1) = l2 at hmv hml hM hout
      generalize l.getD k 0 = d at hM hout
      generalize u - 1 = u2 at hui hM hout
      have hsz2 : (pv (u2 :: l2)).size = 16 := by rw [pv_size, List.length_cons, hml]
      have hr2 := row87
      rw [← hsz2] at hr2
      have hWd := fun W => word_any W u2 l2 hml (by omega) (fun x hx => Nat.lt_trans (hmv.2 x hx) (by omega))
      have hM' := hM
      rw [hui] at hM
      have HU := Lib.hid hui
      clear hui hM'
      go_enter Try.func17, Try.ntmps17
      go_upto_region 5 with (first
        | (refine wpList_store_blk rfl 87 _ _ rfl w2.heap.size (pv (u :: l)) rfl rfl (Blk.new w2 87 _) hr (by rw [hsz]; rfl) hone ?_; have B := (Blk.new w2 87 #[Value.int .i64 0, Value.int .i64 0, Value.int .i64 0, Value.int .i64 0, Value.int .i64 0, Value.int .i64 0, Value.int .i64 0, Value.int .i64 0, Value.int .i64 0, Value.int .i64 0, Value.int .i64 0, Value.int .i64 0, Value.int .i64 0, Value.int .i64 0, Value.int .i64 0, Value.int .i64 0]).setRow (pv (u :: l)); have bb := below_setRow ((b1.trans (b2.mono b1.size)).alloc (b1.trans (b2.mono b1.size)).size (Obj.cells #[Value.int .i64 0, Value.int .i64 0, Value.int .i64 0, Value.int .i64 0, Value.int .i64 0, Value.int .i64 0, Value.int .i64 0, Value.int .i64 0, Value.int .i64 0, Value.int .i64 0, Value.int .i64 0, Value.int .i64 0, Value.int .i64 0, Value.int .i64 0, Value.int .i64 0, Value.int .i64 0] 87)) (b1.trans (b2.mono b1.size)).size (pv (u :: l)); have zz := (b1.trans (b2.mono b1.size)).size)
        | (go_at_call 53; refine (hA _).mono ?_; rintro e w2 ⟨rfl, b2⟩)
        | (go_at_call 21; refine hC.mono ?_; rintro e w1 ⟨rfl, b1⟩))
      have c0 := B.at 0 (pv_get (x := u) rfl)
      have f0 := B.free 0
      go_upto_region 8 with fail
      have B3 : Blk (((w2.alloc (Obj.cells #[Value.int .i64 0, Value.int .i64 0, Value.int .i64 0, Value.int .i64 0, Value.int .i64 0, Value.int .i64 0, Value.int .i64 0, Value.int .i64 0, Value.int .i64 0, Value.int .i64 0, Value.int .i64 0, Value.int .i64 0, Value.int .i64 0, Value.int .i64 0, Value.int .i64 0, Value.int .i64 0] 87)).setRow w2.heap.size (pv (u :: l))).setCell ⟨w2.heap.size, 0, none⟩ (.int .i64 ((u : Int) - 1))) w2.heap.size 87 (pv (u2 :: l)) := by
        have := B.set 0 (.int .i64 ((u2 : Nat) : Int))
        rw [pv_set, HU.out] at this
        exact this
      have b3 := bb.setCell (p := ⟨w2.heap.size, 0, none⟩) zz (.int .i64 ((u : Int) - 1))
      have c3 := B3.at 0 (pv_get (x := u2) rfl)
      rw [HU.out] at c3
      go_wp2_with (first
        | (go_at_call 55; refine (hWd _).mono ?_; rintro e w5 ⟨rfl, b5⟩)
        | (refine wpList_load_blk rfl 87 _ rfl w2.heap.size rfl B4 hr2 ?_)
        | (go_at_call 54; refine (hM _ _ B3).mono ?_; rintro e w4 ⟨rfl, B4, b4⟩))
      go_ret3
      subst hout
      exact ⟨rfl, (b3.trans (b4.mono zz)).trans (b5.mono (b3.trans (b4.mono zz)).size)⟩
  · rw [if_neg hok] at hC hout
    subst hout
    go_enter Try.func17, Try.ntmps17
    go_wp2_with (go_at_call 21; refine hC.mono ?_; rintro e w1 ⟨rfl, b1⟩)
    go_ret3
    exact ⟨rfl, b1⟩

end Go.Proofs.Ythplnecnagbedaa
