/- The clock's functions (package epoch) but Retire and Free, each by its contract; conditions: the clock's numbers are bounded as Ck.Ok says. -/
import Derived.Test.YtmmaklddbkdenaaProg
import Derived.Test.YtmmaklddbkdenaaWords
import Derived.Test.YtmmaklddbkdenaaCkPure
namespace Go.Proofs.Ytmmaklddbkdenaa
open Go.RowKit

/-- The clock k lies at block c, its workers at block bw; tv is the value of its things. -/
def IsClock (w : World) (c bw : Nat) (tv : Value) (k : Ck) : Prop :=
  Blk w c 54 #[.slice (some ⟨bw, 0, none⟩) k.ws.length k.ws.length, .int .i64 k.every, .int .i64 k.glob, .int .i64 k.snap, tv] ∧ Blk w bw 3 (k.ws.map (Value.int .i64)).toArray

theorem IsClock.chg {w w' : World} {c bw : Nat} {tv : Value} {k : Ck} {l : List Nat} (h : IsClock w c bw tv k) (hc : Chg l w w') (h1 : c ∉ l) (h2 : bw ∉ l) : IsClock w' c bw tv k :=
  ⟨h.1.chg hc h1, h.2.chg hc h2⟩

theorem IsClock.set_far {w : World} {c bw : Nat} {tv : Value} {k : Ck} {p : Addr} (h : IsClock w c bw tv k) (h1 : c ≠ p.block) (h2 : bw ≠ p.block) (u : Value) : IsClock (w.setCell p u) c bw tv k :=
  ⟨h.1.far h1 u, h.2.far h2 u⟩

theorem global_any (w : World) (c bw : Nat) (tv : Value) (k : Ck) (h : IsClock w c bw tv k) :
    Calls Try.prog 13 #[.pointer (some ⟨c, 0, none⟩)] w fun e w' => e = .returned (.int .i64 k.glob) ∧ w = w' := by
  have c2 := h.1.at 2 rfl
  clear h
  go_enter Try.func13, Try.ntmps13
  go_wp2
  go_ret
  exact ⟨rfl, rfl⟩

theorem snapshot_any (w : World) (c bw : Nat) (tv : Value) (k : Ck) (h : IsClock w c bw tv k) :
    Calls Try.prog 15 #[.pointer (some ⟨c, 0, none⟩)] w fun e w' => e = .returned (.int .i64 k.snap) ∧ w = w' := by
  have c2 := h.1.at 3 rfl
  clear h
  go_enter Try.func15, Try.ntmps15
  go_wp2
  go_ret
  exact ⟨rfl, rfl⟩

set_option maxRecDepth 100000 in
theorem turn_any (w : World) (c bw : Nat) (tv : Value) (k : Ck) (h : IsClock w c bw tv k) (hk : k.Ok) (i ep : Int) :
    Calls Try.prog 20 #[.pointer (some ⟨c, 0, none⟩), .int .i64 i, .int .i64 ep] w fun e w' => e = .returned (.int .i64 (turnE k.ws i ep)) ∧ IsClock w' c bw tv (turnK k i ep) ∧ Chg [bw] w w' := by
  have c0 := h.1.at 0 rfl
  have hl := hk.len
  by_cases h1 : i < 0
  · have hb : turnBad k.ws i ep = true := by simp [turnBad, h1]
    refine Calls.mono (R := fun e w' => e = .returned (.int .i64 100) ∧ w = w') ?_ (by rintro e w' ⟨rfl, rfl⟩; rw [(turn_bad hb).1, (turn_bad hb).2]; exact ⟨rfl, h, Chg.refl _ _⟩)
    clear h hb
    go_enter Try.func20, Try.ntmps20
    go_wp2
    go_ret
    exact ⟨rfl, rfl⟩
  by_cases h2 : (k.ws.length : Int) ≤ i
  · have hb : turnBad k.ws i ep = true := by simp [turnBad, h2]
    refine Calls.mono (R := fun e w' => e = .returned (.int .i64 100) ∧ w = w') ?_ (by rintro e w' ⟨rfl, rfl⟩; rw [(turn_bad hb).1, (turn_bad hb).2]; exact ⟨rfl, h, Chg.refl _ _⟩)
    clear h hb
    go_enter Try.func20, Try.ntmps20
    go_wp2
    go_ret
    exact ⟨rfl, rfl⟩
  obtain ⟨n, rfl⟩ : ∃ n : Nat, i = n := ⟨i.toNat, by omega⟩
  have hn : n < k.ws.length := by omega
  have cn := h.2.at n (getElem?_map_int k.ws n hn)
  have fn := h.2.free n
  have h1' : ¬ (n : Int) < 0 := by omega
  have h2' : ¬ (k.ws.length : Int) ≤ n := by omega
  have hdef : turnBad k.ws n ep = (decide (0 < k.ws.getD n 0) == decide (0 < ep)) := by simp only [turnBad, Int.toNat_natCast, h1', h2', decide_false, Bool.false_or]
  clear h1' h2'
  generalize k.ws.getD n 0 = v at cn hdef
  cases hb : (decide (0 < v) == decide (0 < ep)) with
  | true =>
    have hbad : turnBad k.ws n ep = true := hdef.trans hb
    refine Calls.mono (R := fun e w' => e = .returned (.int .i64 100) ∧ w = w') ?_ (by rintro e w' ⟨rfl, rfl⟩; rw [(turn_bad hbad).1, (turn_bad hbad).2]; exact ⟨rfl, h, Chg.refl _ _⟩)
    clear h hbad hdef
    go_enter Try.func20, Try.ntmps20
    go_wp2
    go_ret
    exact ⟨rfl, rfl⟩
  | false =>
    have hbad : turnBad k.ws n ep = false := hdef.trans hb
    refine Calls.mono (R := fun e w' => e = .returned (.int .i64 0) ∧ w.setCell ⟨bw, n, none⟩ (.int .i64 ep) = w') ?_ (by
      rintro e w' ⟨rfl, rfl⟩
      rw [(turn_good hbad).1, (turn_good hbad).2]
      refine ⟨rfl, ⟨?_, ?_⟩, (Chg.refl _ _).setCell (.inl (by simp)) _⟩
      · simpa using h.1.far (h.1.ne h.2 (by decide)) _
      · have := h.2.set n (.int .i64 ep)
        rw [toArray_set_int] at this
        simpa using this)
    clear h hbad hdef
    go_enter Try.func20, Try.ntmps20
    go_wp2
    go_ret
    exact ⟨rfl, rfl⟩

set_option maxRecDepth 100000 in
theorem enter_any (w : World) (c bw : Nat) (tv : Value) (k : Ck) (h : IsClock w c bw tv k) (hk : k.Ok) (i : Int) :
    Calls Try.prog 11 #[.pointer (some ⟨c, 0, none⟩), .int .i64 i] w fun e w' => e = .returned (.tuple #[.int .i64 (enterN k i), .int .i64 (turnE k.ws i k.glob)]) ∧ IsClock w' c bw tv (turnK k i k.glob) ∧ Chg [bw] w w' := by
  have c2 := h.1.at 2 rfl
  cases hb : turnBad k.ws i k.glob with
  | true =>
    have he : turnE k.ws i k.glob = 100 := by simp [turnE, hb]
    have hn : enterN k i = 0 := by simp [enterN, hb]
    rw [he, hn]
    have ht := turn_any w c bw tv k h hk i k.glob
    rw [he] at ht
    have HH := Lib.hid h
    clear h hb he hn
    go_enter Try.func11, Try.ntmps11
    go_wp2_with (go_at_call 20; refine ht.mono ?_; rintro e w' ⟨rfl, h', hc⟩)
    go_ret2
    exact ⟨rfl, h', hc⟩
  | false =>
    have he : turnE k.ws i k.glob = 0 := by simp [turnE, hb]
    have hn : enterN k i = k.glob := by simp [enterN, hb]
    rw [he, hn]
    have ht := turn_any w c bw tv k h hk i k.glob
    rw [he] at ht
    have HH := Lib.hid h
    clear h hb he hn
    go_enter Try.func11, Try.ntmps11
    go_wp2_with (go_at_call 20; refine ht.mono ?_; rintro e w' ⟨rfl, h', hc⟩; have c2' := h'.1.at 2 rfl)
    go_ret2
    exact ⟨rfl, h', hc⟩

set_option maxRecDepth 100000 in
theorem leave_any (w : World) (c bw : Nat) (tv : Value) (k : Ck) (h : IsClock w c bw tv k) (hk : k.Ok) (i : Int) :
    Calls Try.prog 12 #[.pointer (some ⟨c, 0, none⟩), .int .i64 i] w fun e w' => e = .returned (.int .i64 (turnE k.ws i 0)) ∧ IsClock w' c bw tv (turnK k i 0) ∧ Chg [bw] w w' := by
  have ht := turn_any w c bw tv k h hk i 0
  clear h
  go_enter Try.func12, Try.ntmps12
  go_wp2_with (go_at_call 20; refine ht.mono ?_; rintro e w' ⟨rfl, h', hc⟩)
  go_ret
  exact ⟨rfl, h', hc⟩

end Go.Proofs.Ytmmaklddbkdenaa
