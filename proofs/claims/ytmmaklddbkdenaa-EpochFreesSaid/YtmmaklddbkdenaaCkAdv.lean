/- New and Advance of package epoch, each by its contract; conditions: bounds on the clock's numbers. -/
import Derived.Test.YtmmaklddbkdenaaCkWorks
import Derived.BigRegion
namespace Go.Proofs.Ytmmaklddbkdenaa
open Go.RowKit

theorem Try.info3 : (Try.prog.info? 3).map (fun i => (i.zero, i.size, i.bytes)) = some (some (.int .i64 0), 1, 8) := by kernel_rfl

/-- May New make such a clock? -/
def newBad (n e g : Int) : Bool := decide (n < 1) || decide (16 < n) || decide (e < 1) || decide (4096 < e) || decide (g < 1) || decide (2147483648 < g)
def newK (n e g : Int) : Ck := ⟨List.replicate n.toNat 0, e, g, g - 1⟩
theorem newK_ok {n e g : Int} (h : newBad n e g = false) : (newK n e g).Ok := by
  simp only [newBad, Bool.or_eq_false_iff, decide_eq_false_iff_not] at h
  refine ⟨?_, ?_, ?_, ?_, ?_, ?_, ?_⟩ <;> simp only [newK, List.length_replicate] <;> omega

set_option maxRecDepth 100000 in
theorem new_bad (n e g : Int) (w : World) (hb : newBad n e g = true) :
    Calls Try.prog 9 #[.int .i64 n, .int .i64 e, .int .i64 g] w fun e w' => e = .returned (.tuple #[.pointer none, .int .i64 1]) ∧ w = w' := by
  simp only [newBad, Bool.or_eq_true, decide_eq_true_eq] at hb
  by_cases h1 : n < 1
  · clear hb; go_enter Try.func9, Try.ntmps9
    go_wp2
    go_ret2
    exact ⟨rfl, rfl⟩
  by_cases h2 : 16 < n
  · clear hb; go_enter Try.func9, Try.ntmps9
    go_wp2
    go_ret2
    exact ⟨rfl, rfl⟩
  by_cases h3 : e < 1
  · clear hb; go_enter Try.func9, Try.ntmps9
    go_wp2
    go_ret2
    exact ⟨rfl, rfl⟩
  by_cases h4 : 4096 < e
  · clear hb; go_enter Try.func9, Try.ntmps9
    go_wp2
    go_ret2
    exact ⟨rfl, rfl⟩
  by_cases h5 : g < 1
  · clear hb; go_enter Try.func9, Try.ntmps9
    go_wp2
    go_ret2
    exact ⟨rfl, rfl⟩
  by_cases h6 : 2147483648 < g
  · clear hb; go_enter Try.func9, Try.ntmps9
    go_wp2
    go_ret2
    exact ⟨rfl, rfl⟩
  · exfalso; omega

set_option maxRecDepth 100000 in
theorem new_good (n e g : Int) (w : World) (hb : newBad n e g = false) :
    Calls Try.prog 9 #[.int .i64 n, .int .i64 e, .int .i64 g] w fun e' w' => e' = .returned (.tuple #[.pointer (some ⟨w.heap.size + 1, 0, none⟩), .int .i64 0]) ∧
      IsClock w' (w.heap.size + 1) w.heap.size (.slice none 0 0) (newK n e g) ∧ Below w.heap.size w w' := by
  have hb' := hb
  simp only [newBad, Bool.or_eq_false_iff, decide_eq_false_iff_not] at hb
  obtain ⟨⟨⟨⟨⟨h1, h2⟩, h3⟩, h4⟩, h5⟩, h6⟩ := hb
  obtain ⟨m, rfl⟩ : ∃ m : Nat, n = m := ⟨n.toNat, by omega⟩
  obtain ⟨i0, hi, hz0, hz1, hz2⟩ := info_parts Try.info3
  have hmk := fun W => run_makeN (P := Try.prog) 41 3 i0 (.int .i64 0) Try.underlying41 hi hz0 hz1 rfl m (by rw [hz2]; omega) (by omega) W
  have Hz := Lib.hid hi
  clear hi hz0 hz1 hz2 hb'
  have hlo : 1 ≤ g := by omega
  go_enter Try.func9, Try.ntmps9
  go_wp2
  go_ret2
  refine ⟨rfl, ⟨?_, ?_⟩, ?_⟩
  · have := Blk.new (w.alloc (.cells (List.replicate m (Value.int .i64 0)).toArray 3)) 54 #[.slice (some ⟨w.heap.size, 0, none⟩) m m, .int .i64 e, .int .i64 g, .int .i64 (g - 1), .slice none 0 0]
    simpa [newK] using this
  · have := (Blk.new w 3 (List.replicate m (Value.int .i64 0)).toArray)
    simpa [newK] using this.alloc _
  · exact ((Below.refl _ _).alloc (by simp) _).alloc (by simp) _

theorem adv_no {k : Ck} (h : advOk k = false) : adv k = k := by simp [adv, h]

set_option maxRecDepth 100000 in
set_option maxHeartbeats 1000000 in
theorem advance_any (w : World) (c bw : Nat) (tv : Value) (k : Ck) (h : IsClock w c bw tv k) (hk : k.Ok) :
    Calls Try.prog 14 #[.pointer (some ⟨c, 0, none⟩)] w fun e w' => e = .returned (.tuple #[.bool (advOk k), .int .i64 (advE k)]) ∧ IsClock w' c bw tv (adv k) ∧ Chg [c] w w' := by
  have hlt := h.1.lt
  have c1 := h.1.at 1 rfl
  have c2 := h.1.at 2 rfl
  have c3 := h.1.at 3 rfl
  have f2 := h.1.free 2
  have f3 := h.1.free 3
  have g1 := hk.g1
  have g2 := hk.g2
  have e1 := hk.e1
  have e2 := hk.e2
  have s1 := hk.s1
  have s2 := hk.s2
  by_cases hg : 2147483648 ≤ k.glob
  · have ho : advOk k = false := by simp [advOk, hg]
    have he : advE k = 1 := by simp [advE, hg]
    rw [ho, he, adv_no ho]
    clear ho he
    have HH := Lib.hid h
    clear h
    go_enter Try.func14, Try.ntmps14
    go_wp2
    go_ret2
    exact ⟨rfl, HH.out.chg ((Chg.refl [] _).alloc _) (by simp) (by simp), (Chg.refl _ _).alloc _⟩
  have he : advE k = 0 := by simp [advE, hg]
  have hW := works_any (w.alloc (.cells #[.pointer (some ⟨c, 0, none⟩)] 26)) c bw tv k (h.chg ((Chg.refl [] _).alloc _) (by simp) (by simp)) hk (fun n => decide (n < k.glob)) 22 (.pointer (some ⟨w.heap.size, 0, none⟩)) call22
    (fun x => adv1_any _ w.heap.size c bw tv k ((Blk.new w 26 #[.pointer (some ⟨c, 0, none⟩)]).alloc _) (h.chg (((Chg.refl [] _).alloc _).alloc _) (by simp) (by simp)) x)
  cases hb : advBehind k with
  | true =>
    have ho : advOk k = false := by simp [advOk, hb]
    rw [ho, he, adv_no ho]
    rw [show worksP k.ws (fun n => decide (n < k.glob)) = true from hb] at hW
    clear ho he hb
    have HH := Lib.hid h
    clear h
    go_enter Try.func14, Try.ntmps14
    go_wp2_with (go_at_call 21; refine hW.mono ?_; rintro e w' ⟨rfl, rfl⟩)
    go_ret2
    exact ⟨rfl, HH.out.chg (((Chg.refl [] _).alloc _).alloc _) (by simp) (by simp), ((Chg.refl _ _).alloc _).alloc _⟩
  | false =>
    have ho : advOk k = true := by simp [advOk, hb, hg]
    have ha : adv k = { k with glob := k.glob + 1, snap := advSnap k } := by simp [adv, ho]
    rw [ho, he, ha]
    rw [show worksP k.ws (fun n => decide (n < k.glob)) = false from hb] at hW
    clear ho he hb ha
    have HH := Lib.hid h
    clear h
    have hne : c ≠ bw := HH.out.1.ne HH.out.2 (by decide)
    by_cases hm : (k.glob + 1) % k.every = 0
    · have hs : advSnap k = max k.snap (k.glob - 1) := by simp [advSnap, hm]
      rw [hs]
      have hd : ((k.glob + 1) % k.every == 0) = true := by simpa using hm
      clear hs
      have hm' := Lib.hid hm
      clear hm
      go_enter Try.func14, Try.ntmps14
      go_wp2_with (go_at_call 21; refine hW.mono ?_; rintro e w' ⟨rfl, rfl⟩)
      go_quiet (fail)
      go_wp2
      go_region
      all_goals go_wp2
      all_goals go_ret2
      · have hmax : max k.snap (k.glob - 1) = k.glob + 1 - 2 := by omega
        rw [hmax]
        refine ⟨rfl, ⟨?_, ?_⟩, ?_⟩
        · (apply Blk.conv; repeat first | with_reducible apply Blk.drew | with_reducible apply Blk.drewN | with_reducible apply Blk.alloc | with_reducible apply Blk.set | (with_reducible apply Blk.far'; (focus (dsimp only; omega))))
          · exact HH.out.1
          rfl
        · (apply Blk.conv; repeat first | with_reducible apply Blk.drew | with_reducible apply Blk.drewN | with_reducible apply Blk.alloc | with_reducible apply Blk.set | (with_reducible apply Blk.far'; (focus (dsimp only; omega))))
          · exact HH.out.2
          rfl
        · (repeat first | with_reducible refine Chg.drew ?_ | with_reducible refine Chg.drewN ?_ _ | with_reducible refine Chg.alloc ?_ _ | with_reducible refine Chg.setCell ?_ (by first | exact .inl (by simp) | exact .inr (by dsimp only; omega)) _)
          exact Chg.refl _ _
      · have hmax : max k.snap (k.glob - 1) = k.snap := by omega
        rw [hmax]
        refine ⟨rfl, ⟨?_, ?_⟩, ?_⟩
        · (apply Blk.conv; repeat first | with_reducible apply Blk.drew | with_reducible apply Blk.drewN | with_reducible apply Blk.alloc | with_reducible apply Blk.set | (with_reducible apply Blk.far'; (focus (dsimp only; omega))))
          · exact HH.out.1
          rfl
        · (apply Blk.conv; repeat first | with_reducible apply Blk.drew | with_reducible apply Blk.drewN | with_reducible apply Blk.alloc | with_reducible apply Blk.set | (with_reducible apply Blk.far'; (focus (dsimp only; omega))))
          · exact HH.out.2
          rfl
        · (repeat first | with_reducible refine Chg.drew ?_ | with_reducible refine Chg.drewN ?_ _ | with_reducible refine Chg.alloc ?_ _ | with_reducible refine Chg.setCell ?_ (by first | exact .inl (by simp) | exact .inr (by dsimp only; omega)) _)
          exact Chg.refl _ _
    · have hs : advSnap k = k.snap := by simp [advSnap, hm]
      rw [hs]
      have hd : ((k.glob + 1) % k.every == 0) = false := by simpa using hm
      clear hs
      have hm' := Lib.hid hm
      clear hm
      go_enter Try.func14, Try.ntmps14
      go_wp2_with (go_at_call 21; refine hW.mono ?_; rintro e w' ⟨rfl, rfl⟩)
      go_quiet (fail)
      go_wp2
      go_ret2
      refine ⟨rfl, ⟨?_, ?_⟩, ?_⟩
      · (apply Blk.conv; repeat first | with_reducible apply Blk.drew | with_reducible apply Blk.drewN | with_reducible apply Blk.alloc | with_reducible apply Blk.set | (with_reducible apply Blk.far'; (focus (dsimp only; omega))))
        · exact HH.out.1
        rfl
      · (apply Blk.conv; repeat first | with_reducible apply Blk.drew | with_reducible apply Blk.drewN | with_reducible apply Blk.alloc | with_reducible apply Blk.set | (with_reducible apply Blk.far'; (focus (dsimp only; omega))))
        · exact HH.out.2
        rfl
      · (repeat first | with_reducible refine Chg.drew ?_ | with_reducible refine Chg.drewN ?_ _ | with_reducible refine Chg.alloc ?_ _ | with_reducible refine Chg.setCell ?_ (by first | exact .inl (by simp) | exact .inr (by dsimp only; omega)) _)
        exact Chg.refl _ _

end Go.Proofs.Ytmmaklddbkdenaa
