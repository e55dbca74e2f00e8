/- The document's clock (hopperref10): New, Enter, Leave, Advance, Retire, free, each by its contract; conditions: bounds on the clock's numbers. -/
import Derived.Test.YtmmaklddbkdenaaCkFreeTop
namespace Go.Proofs.Ytmmaklddbkdenaa
open Go.RowKit

/-- No worker's epoch is below 0. -/
def Pos (k : Ck) : Prop := ∀ i, 0 ≤ k.ws.getD i 0

def IsRef (w : World) (r rw : Nat) (tv wv : Value) (k : Ck) : Prop :=
  Blk w r 51 #[.slice (some ⟨rw, 0, none⟩) k.ws.length k.ws.length, .int .i64 k.every, .int .i64 k.glob, .int .i64 k.snap, tv, wv] ∧ Blk w rw 3 (k.ws.map (Value.int .i64)).toArray

theorem IsRef.chg {w w' : World} {r rw : Nat} {tv wv : Value} {k : Ck} {l : List Nat} (h : IsRef w r rw tv wv k) (hc : Chg l w w') (h1 : r ∉ l) (h2 : rw ∉ l) : IsRef w' r rw tv wv k :=
  ⟨h.1.chg hc h1, h.2.chg hc h2⟩

set_option maxRecDepth 100000 in
theorem rnew_bad (n e g : Int) (w : World) (hb : newBad n e g = true) :
    Calls Try.prog 18 #[.int .i64 n, .int .i64 e, .int .i64 g] w fun e w' => e = .returned (.tuple #[.pointer none, .int .i64 1]) ∧ w = w' := by
  simp only [newBad, Bool.or_eq_true, decide_eq_true_eq] at hb
  by_cases h1 : n < 1
  · clear hb; go_enter Try.func18, Try.ntmps18
    go_wp2
    go_ret2
    exact ⟨rfl, rfl⟩
  by_cases h2 : 16 < n
  · clear hb; go_enter Try.func18, Try.ntmps18
    go_wp2
    go_ret2
    exact ⟨rfl, rfl⟩
  by_cases h3 : e < 1
  · clear hb; go_enter Try.func18, Try.ntmps18
    go_wp2
    go_ret2
    exact ⟨rfl, rfl⟩
  by_cases h4 : 4096 < e
  · clear hb; go_enter Try.func18, Try.ntmps18
    go_wp2
    go_ret2
    exact ⟨rfl, rfl⟩
  by_cases h5 : g < 1
  · clear hb; go_enter Try.func18, Try.ntmps18
    go_wp2
    go_ret2
    exact ⟨rfl, rfl⟩
  by_cases h6 : 2147483648 < g
  · clear hb; go_enter Try.func18, Try.ntmps18
    go_wp2
    go_ret2
    exact ⟨rfl, rfl⟩
  · exfalso; omega

set_option maxRecDepth 100000 in
theorem rnew_good (n e g : Int) (w : World) (hb : newBad n e g = false) :
    Calls Try.prog 18 #[.int .i64 n, .int .i64 e, .int .i64 g] w fun e' w' => e' = .returned (.tuple #[.pointer (some ⟨w.heap.size + 1, 0, none⟩), .int .i64 0]) ∧
      IsRef w' (w.heap.size + 1) w.heap.size (.slice none 0 0) (.slice none 0 0) (newK n e g) ∧ Below w.heap.size w w' := by
  have hb' := hb
  simp only [newBad, Bool.or_eq_false_iff, decide_eq_false_iff_not] at hb
  obtain ⟨⟨⟨⟨⟨h1, h2⟩, h3⟩, h4⟩, h5⟩, h6⟩ := hb
  obtain ⟨m, rfl⟩ : ∃ m : Nat, n = m := ⟨n.toNat, by omega⟩
  obtain ⟨i0, hi, hz0, hz1, hz2⟩ := info_parts Try.info3
  have hmk := fun W => run_makeN (P := Try.prog) 41 3 i0 (.int .i64 0) Try.underlying41 hi hz0 hz1 rfl m (by rw [hz2]; omega) (by omega) W
  have Hz := Lib.hid hi
  clear hi hz0 hz1 hz2 hb'
  have hlo : 1 ≤ g := by omega
  go_enter Try.func18, Try.ntmps18
  go_wp2
  go_ret2
  refine ⟨rfl, ⟨?_, ?_⟩, ?_⟩
  · have := Blk.new (w.alloc (.cells (List.replicate m (Value.int .i64 0)).toArray 3)) 51 #[.slice (some ⟨w.heap.size, 0, none⟩) m m, .int .i64 e, .int .i64 g, .int .i64 (g - 1), .slice none 0 0, .slice none 0 0]
    simpa [newK] using this
  · have := (Blk.new w 3 (List.replicate m (Value.int .i64 0)).toArray)
    simpa [newK] using this.alloc _
  · exact ((Below.refl _ _).alloc (by simp) _).alloc (by simp) _

set_option maxRecDepth 100000 in
set_option maxHeartbeats 1000000 in
theorem renter_any (w : World) (r rw : Nat) (tv wv : Value) (k : Ck) (h : IsRef w r rw tv wv k) (hk : k.Ok) (i : Int) :
    Calls Try.prog 26 #[.pointer (some ⟨r, 0, none⟩), .int .i64 i] w fun e w' => e = .returned (.tuple #[.int .i64 (enterN k i), .int .i64 (turnE k.ws i k.glob)]) ∧ IsRef w' r rw tv wv (turnK k i k.glob) ∧ Chg [rw] w w' := by
  have c0 := h.1.at 0 rfl
  have c2 := h.1.at 2 rfl
  have hl := hk.len
  have hg := hk.g1
  have hne := h.1.ne h.2 (by decide)
  have bad : turnBad k.ws i k.glob = true → (Calls Try.prog 26 #[.pointer (some ⟨r, 0, none⟩), .int .i64 i] w fun e w' => e = .returned (.tuple #[.int .i64 0, .int .i64 100]) ∧ w = w') →
      Calls Try.prog 26 #[.pointer (some ⟨r, 0, none⟩), .int .i64 i] w fun e w' => e = .returned (.tuple #[.int .i64 (enterN k i), .int .i64 (turnE k.ws i k.glob)]) ∧ IsRef w' r rw tv wv (turnK k i k.glob) ∧ Chg [rw] w w' := by
    intro hb hc
    rw [(turn_bad hb).1, (turn_bad hb).2, show enterN k i = 0 by simp [enterN, hb]]
    exact hc.mono fun e w' ⟨he, hw⟩ => by subst hw; exact ⟨he, h, Chg.refl _ _⟩
  by_cases h1 : i < 0
  · refine bad (by simp [turnBad, h1]) ?_
    clear h bad
    go_enter Try.func26, Try.ntmps26
    go_wp2
    go_ret2
    exact ⟨rfl, rfl⟩
  by_cases h2 : (k.ws.length : Int) ≤ i
  · refine bad (by simp [turnBad, h2]) ?_
    clear h bad
    go_enter Try.func26, Try.ntmps26
    go_wp2
    go_ret2
    exact ⟨rfl, rfl⟩
  obtain ⟨n, rfl⟩ : ∃ n : Nat, i = n := ⟨i.toNat, by omega⟩
  have hn : n < k.ws.length := by omega
  have cn := h.2.at n (getElem?_map_int k.ws n hn)
  have fn := h.2.free n
  have hdef : turnBad k.ws n k.glob = decide (0 < k.ws.getD n 0) := by
    have a1 : ¬ (n : Int) < 0 := by omega
    have a2 : ¬ (k.ws.length : Int) ≤ n := by omega
    have a3 : decide (0 < k.glob) = true := decide_eq_true (by omega)
    simp only [turnBad, Int.toNat_natCast, a1, a2, a3, decide_false, Bool.false_or]
    cases decide (0 < k.ws.getD n 0) <;> rfl
  generalize k.ws.getD n 0 = v at cn hdef
  by_cases hv : 0 < v
  · refine bad (by rw [hdef]; exact decide_eq_true hv) ?_
    clear h bad hdef
    go_enter Try.func26, Try.ntmps26
    go_wp2
    go_ret2
    exact ⟨rfl, rfl⟩
  · have hb : turnBad k.ws n k.glob = false := by rw [hdef]; exact decide_eq_false hv
    rw [(turn_good hb).1, (turn_good hb).2, show enterN k n = k.glob by simp [enterN, hb]]
    have HH := Lib.hid h
    clear h bad hdef hb
    go_enter Try.func26, Try.ntmps26
    go_wp2
    go_region
    all_goals go_wp2
    all_goals go_ret2
    all_goals
      refine ⟨rfl, ⟨?_, ?_⟩, ?_⟩
      · (apply Blk.conv; repeat first | with_reducible apply Blk.drew | with_reducible apply Blk.drewN | with_reducible apply Blk.alloc | with_reducible apply Blk.set | (with_reducible apply Blk.far'; (focus (dsimp only; omega))))
        · exact HH.out.1
        first | rfl | simp
      · (apply Blk.conv; repeat first | with_reducible apply Blk.drew | with_reducible apply Blk.drewN | with_reducible apply Blk.alloc | with_reducible apply Blk.set | (with_reducible apply Blk.far'; (focus (dsimp only; omega))))
        · exact HH.out.2
        simp [List.map_set]
      · (repeat first | with_reducible refine Chg.drew ?_ | with_reducible refine Chg.drewN ?_ _ | with_reducible refine Chg.alloc ?_ _ | with_reducible refine Chg.setCell ?_ (by first | exact .inl (by simp) | exact .inr (by dsimp only; omega)) _)
        exact Chg.refl _ _

set_option maxRecDepth 100000 in
set_option maxHeartbeats 1000000 in
theorem rleave_any (w : World) (r rw : Nat) (tv wv : Value) (k : Ck) (h : IsRef w r rw tv wv k) (hk : k.Ok) (hp : Pos k) (i : Int) :
    Calls Try.prog 27 #[.pointer (some ⟨r, 0, none⟩), .int .i64 i] w fun e w' => e = .returned (.int .i64 (turnE k.ws i 0)) ∧ IsRef w' r rw tv wv (turnK k i 0) ∧ Chg [rw] w w' := by
  have c0 := h.1.at 0 rfl
  have hl := hk.len
  have hne := h.1.ne h.2 (by decide)
  have bad : turnBad k.ws i 0 = true → (Calls Try.prog 27 #[.pointer (some ⟨r, 0, none⟩), .int .i64 i] w fun e w' => e = .returned (.int .i64 100) ∧ w = w') →
      Calls Try.prog 27 #[.pointer (some ⟨r, 0, none⟩), .int .i64 i] w fun e w' => e = .returned (.int .i64 (turnE k.ws i 0)) ∧ IsRef w' r rw tv wv (turnK k i 0) ∧ Chg [rw] w w' := by
    intro hb hc
    rw [(turn_bad hb).1, (turn_bad hb).2]
    exact hc.mono fun e w' ⟨he, hw⟩ => by subst hw; exact ⟨he, h, Chg.refl _ _⟩
  by_cases h1 : i < 0
  · refine bad (by simp [turnBad, h1]) ?_
    clear h bad
    go_enter Try.func27, Try.ntmps27
    go_wp2
    go_ret
    exact ⟨rfl, rfl⟩
  by_cases h2 : (k.ws.length : Int) ≤ i
  · refine bad (by simp [turnBad, h2]) ?_
    clear h bad
    go_enter Try.func27, Try.ntmps27
    go_wp2
    go_ret
    exact ⟨rfl, rfl⟩
  obtain ⟨n, rfl⟩ : ∃ n : Nat, i = n := ⟨i.toNat, by omega⟩
  have hn : n < k.ws.length := by omega
  have cn := h.2.at n (getElem?_map_int k.ws n hn)
  have fn := h.2.free n
  have hpn := hp n
  have hdef : turnBad k.ws n 0 = !decide (0 < k.ws.getD n 0) := by
    have a1 : ¬ (n : Int) < 0 := by omega
    have a2 : ¬ (k.ws.length : Int) ≤ n := by omega
    simp only [turnBad, Int.toNat_natCast, a1, a2, decide_false, Bool.false_or]
    cases decide (0 < k.ws.getD n 0) <;> rfl
  generalize k.ws.getD n 0 = v at cn hdef hpn
  by_cases hv : 0 < v
  · have hb : turnBad k.ws n 0 = false := by rw [hdef, decide_eq_true hv]; rfl
    rw [(turn_good hb).1, (turn_good hb).2]
    have HH := Lib.hid h
    clear h bad hdef hb
    go_enter Try.func27, Try.ntmps27
    go_wp2
    go_ret
    refine ⟨rfl, ⟨?_, ?_⟩, ?_⟩
    · (apply Blk.conv; repeat first | with_reducible apply Blk.drew | with_reducible apply Blk.drewN | with_reducible apply Blk.alloc | with_reducible apply Blk.set | (with_reducible apply Blk.far'; (focus (dsimp only; omega))))
      · exact HH.out.1
      first | rfl | simp
    · (apply Blk.conv; repeat first | with_reducible apply Blk.drew | with_reducible apply Blk.drewN | with_reducible apply Blk.alloc | with_reducible apply Blk.set | (with_reducible apply Blk.far'; (focus (dsimp only; omega))))
      · exact HH.out.2
      simp [List.map_set]
    · (repeat first | with_reducible refine Chg.drew ?_ | with_reducible refine Chg.drewN ?_ _ | with_reducible refine Chg.alloc ?_ _ | with_reducible refine Chg.setCell ?_ (by first | exact .inl (by simp) | exact .inr (by dsimp only; omega)) _)
      exact Chg.refl _ _
  · have hz : (v == 0) = true := by simp; omega
    refine bad (by rw [hdef, decide_eq_false hv]; rfl) ?_
    clear h bad hdef
    go_enter Try.func27, Try.ntmps27
    go_wp2
    go_ret
    exact ⟨rfl, rfl⟩

end Go.Proofs.Ytmmaklddbkdenaa
