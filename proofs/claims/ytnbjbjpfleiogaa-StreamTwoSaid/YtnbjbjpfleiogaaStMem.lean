/- A net in memory; New, to, from, Dial of package stream, each by its contract; conditions: at most 64 connections. -/
import Derived.Test.YtnbjbjpfleiogaaStPure
import Derived.Test.YtnbjbjpfleiogaaProg
import Derived.Deep.AppendLies
import Derived.Deep.DeepCutAuto
import Derived.Deep.CutBlock
namespace Go.Proofs.Ytnbjbjpfleiogaa
open Go.RowKit

theorem own_setCell {w : World} {base : Nat} {e : TypeId} {size n cap g : Nat} {xs : List Value} (h : w.ownsRow base e size (.slice (some ⟨g, 0, none⟩) n cap) n xs) {i : Nat} (hi : i < xs.length) (x : Value) :
    (w.setCell ⟨g, i, none⟩ x).ownsRow base e size (.slice (some ⟨g, 0, none⟩) n cap) n (xs.set i x) := by
  refine ⟨by simpa using h.1, ?_⟩
  rcases h.2 with ⟨h0, _⟩ | ⟨g', cap', cur, e1, hb, hg, h3, h4, h5, h6⟩
  · cases h0
  · simp only [Value.slice.injEq, Option.some.injEq, Addr.mk.injEq] at e1
    obtain ⟨⟨rfl, _, _⟩, _, rfl⟩ := e1
    have hg' : Blk w g e cur := hg
    refine .inr ⟨g, cap, _, rfl, hb, hg'.set i x, h3, h4, by simpa using h5, ?_⟩
    rw [Array.toList_setIfInBounds, List.take_set, h6]

structure IsNet (w : World) (nb : Nat) (v : Value) (ps : List Pipe) (n : Nat) : Prop where
  net : Blk w nb 53 #[v]
  row : w.ownsRow 0 56 6 v n (netCells ps)

section
variable {w w' : World} {nb n : Nat} {v : Value} {ps : List Pipe} {l : List Nat}
theorem IsNet.len (h : IsNet w nb v ps n) : ps.length = 2 * n := by have := h.row.1; rw [netCells_len] at this; omega
theorem IsNet.form (h : IsNet w nb v ps n) : ∃ A cap, v = .slice A n cap ∧ n ≤ cap := own_form h.row
theorem IsNet.chg (h : IsNet w nb v ps n) (hc : Chg l w w') (h1 : nb ∉ l) (h2 : ∀ g, v.ownBlock = some g → g ∉ l) : IsNet w' nb v ps n := ⟨h.net.chg hc h1, own_chg h.row hc h2⟩
theorem IsNet.ne (h : IsNet w nb v ps n) : ∀ g, v.ownBlock = some g → g ≠ nb := fun g hg e => own_ne h.row h.net (by decide) (by rw [hg, e])
theorem IsNet.pipe (h : IsNet w nb v ps n) {q : Nat} (hq : q < ps.length) : ∃ g cap, v = .slice (some ⟨g, 0, none⟩) n cap ∧ g < w.heap.size ∧ (∀ j, w.frozen? ⟨g, j, none⟩ = false) ∧ w.cell? ⟨g, 3 * q, none⟩ = some (.string (ps.getD q pipe0).way) ∧
    w.cell? ⟨g, 3 * q + 1, none⟩ = some (.string (ps.getD q pipe0).here) ∧ w.cell? ⟨g, 3 * q + 2, none⟩ = some (.bool (ps.getD q pipe0).shut) := by
  have hl := h.len
  rcases h.row.2 with ⟨_, h0⟩ | ⟨g, cap, cur, rfl, hb, hg, h3, h4, h5, h6⟩
  · omega
  · have hg' : Blk w g 56 cur := hg
    obtain ⟨c0, c1, c2⟩ := netCells_get ps q hq
    have get : ∀ j u, (netCells ps)[j]? = some u → w.cell? ⟨g, j, none⟩ = some u := fun j u hu => by
      refine hg'.at j ?_
      rw [← h6, List.getElem?_take] at hu
      split at hu
      · simpa using hu
      · cases hu
    exact ⟨g, cap, rfl, hg'.lt, hg'.free, get _ _ c0, get _ _ c1, get _ _ c2⟩
theorem IsNet.set {g cap : Nat} (h : IsNet w nb (.slice (some ⟨g, 0, none⟩) n cap) ps n) {q : Nat} (hq : q < ps.length) :
    (∀ s, IsNet (w.setCell ⟨g, 3 * q, none⟩ (.string s)) nb (.slice (some ⟨g, 0, none⟩) n cap) (ps.set q { ps.getD q pipe0 with way := s }) n) ∧
    (∀ s, IsNet (w.setCell ⟨g, 3 * q + 1, none⟩ (.string s)) nb (.slice (some ⟨g, 0, none⟩) n cap) (ps.set q { ps.getD q pipe0 with here := s }) n) ∧
    (∀ b, IsNet (w.setCell ⟨g, 3 * q + 2, none⟩ (.bool b)) nb (.slice (some ⟨g, 0, none⟩) n cap) (ps.set q { ps.getD q pipe0 with shut := b }) n) := by
  have hne := h.ne g rfl
  obtain ⟨s0, s1, s2⟩ := netCells_set ps q hq
  have hl := netCells_len ps
  refine ⟨fun s => ⟨h.net.far hne.symm _, ?_⟩, fun s => ⟨h.net.far hne.symm _, ?_⟩, fun s => ⟨h.net.far hne.symm _, ?_⟩⟩
  · rw [← s0]; exact own_setCell h.row (by omega) _
  · rw [← s1]; exact own_setCell h.row (by omega) _
  · rw [← s2]; exact own_setCell h.row (by omega) _
end

/-- Which error a connection and a side are told as. -/
def toE (n : Nat) (conn side : Int) : Int := if conn < 0 ∨ (n : Int) ≤ conn then 5 else if side ≠ 0 ∧ side ≠ 1 then 1 else 0

theorem new_any (w : World) : Calls Try.prog 8 #[] w fun e w' => e = .returned (.pointer (some ⟨w.heap.size, 0, none⟩)) ∧ IsNet w' w.heap.size (.slice none 0 0) [] 0 ∧ Below w.heap.size w w' := by
  go_enter Try.func8, Try.ntmps8
  go_wp2
  go_ret
  exact ⟨rfl, ⟨Blk.new _ _ _, World.ownsRow_nil _ _ _ _⟩, (Below.refl _ _).alloc (Nat.le_refl _) _⟩

set_option maxRecDepth 100000 in
theorem to_bad (w : World) (nb n : Nat) (v : Value) (ps : List Pipe) (h : IsNet w nb v ps n) (conn side : Int) (hb : toE n conn side ≠ 0) :
    Calls Try.prog 21 #[.pointer (some ⟨nb, 0, none⟩), .int .i64 conn, .int .i64 side] w fun e w' => e = .returned (.tuple #[.pointer none, .int .i64 (toE n conn side)]) ∧ w = w' := by
  obtain ⟨A, cap, rfl, _⟩ := h.form
  have c0 := h.net.at 0 rfl
  unfold toE at hb ⊢
  clear h
  by_cases h1 : conn < 0
  · rw [if_pos (.inl h1)]
    clear hb
    go_enter Try.func21, Try.ntmps21
    go_wp2
    go_ret2
    exact ⟨rfl, rfl⟩
  by_cases h2 : (n : Int) ≤ conn
  · rw [if_pos (.inr h2)]
    clear hb
    go_enter Try.func21, Try.ntmps21
    go_wp2
    go_ret2
    exact ⟨rfl, rfl⟩
  rw [if_neg (by omega)] at hb ⊢
  by_cases h3 : side ≠ 0 ∧ side ≠ 1
  · rw [if_pos h3]
    obtain ⟨h3, h4⟩ := h3
    have b3 : (side != 0) = true := by simp [h3]
    have b4 : (side != 1) = true := by simp [h4]
    clear hb h3 h4
    go_enter Try.func21, Try.ntmps21
    go_wp2
    go_ret2
    exact ⟨rfl, rfl⟩
  · rw [if_neg h3] at hb; exact absurd rfl hb

set_option maxRecDepth 100000 in
theorem to_good (w : World) (nb n g cap : Nat) (ps : List Pipe) (h : IsNet w nb (.slice (some ⟨g, 0, none⟩) n cap) ps n) (i s : Nat) (hi : i < n) (hs : s < 2) :
    Calls Try.prog 21 #[.pointer (some ⟨nb, 0, none⟩), .int .i64 i, .int .i64 s] w fun e w' => e = .returned (.tuple #[.pointer (some ⟨g, 3 * (2 * i + s), none⟩), .int .i64 0]) ∧ w = w' := by
  have c0 := h.net.at 0 rfl
  clear h
  obtain rfl | rfl : s = 0 ∨ s = 1 := by omega
  · go_enter Try.func21, Try.ntmps21
    go_wp2
    go_ret2
    exact ⟨by simp, rfl⟩
  · go_enter Try.func21, Try.ntmps21
    go_wp2
    go_ret2
    exact ⟨by simp, rfl⟩

theorem from_bad (w : World) (nb n : Nat) (v : Value) (ps : List Pipe) (h : IsNet w nb v ps n) (conn side : Int) (hb : toE n conn side ≠ 0) :
    Calls Try.prog 20 #[.pointer (some ⟨nb, 0, none⟩), .int .i64 conn, .int .i64 side] w fun e w' => e = .returned (.tuple #[.pointer none, .int .i64 (toE n conn side)]) ∧ w = w' := by
  have hT := to_bad w nb n v ps h conn side hb
  clear h
  generalize toE n conn side = z at hb hT
  go_enter Try.func20, Try.ntmps20
  go_wp2_with (go_at_call 21; refine hT.mono ?_; rintro e w1 ⟨rfl, rfl⟩)
  go_ret2
  exact ⟨rfl, rfl⟩

set_option maxRecDepth 100000 in
set_option maxHeartbeats 400000 in
theorem from_lit (w : World) (nb n g cap : Nat) (a b : Int) (p q : Nat) (h1 : Calls Try.prog 21 #[.pointer (some ⟨nb, 0, none⟩), .int .i64 p, .int .i64 a] w fun e w' => e = .returned (.tuple #[.pointer (some ⟨g, n, none⟩), .int .i64 0]) ∧ w = w')
    (h2 : Calls Try.prog 21 #[.pointer (some ⟨nb, 0, none⟩), .int .i64 p, .int .i64 b] w fun e w' => e = .returned (.tuple #[.pointer (some ⟨g, q, none⟩), .int .i64 0]) ∧ w = w') (ha : -10 ≤ a ∧ a ≤ 10) (hab : 1 - a = b) :
    Calls Try.prog 20 #[.pointer (some ⟨nb, 0, none⟩), .int .i64 p, .int .i64 a] w fun e w' => e = .returned (.tuple #[.pointer (some ⟨g, q, none⟩), .int .i64 0]) ∧ w = w' := by
  obtain ⟨a1, a2⟩ := ha
  go_enter Try.func20, Try.ntmps20
  go_upto_region 4 with (go_at_call 21; refine h1.mono ?_; rintro e w1 ⟨rfl, rfl⟩)
  clear h1
  go_wp2_with (go_at_call 21; refine h2.mono ?_; rintro e w1 ⟨rfl, rfl⟩)
  go_ret2
  exact ⟨rfl, rfl⟩

theorem from_good (w : World) (nb n g cap : Nat) (ps : List Pipe) (h : IsNet w nb (.slice (some ⟨g, 0, none⟩) n cap) ps n) (i s : Nat) (hi : i < n) (hs : s < 2) :
    Calls Try.prog 20 #[.pointer (some ⟨nb, 0, none⟩), .int .i64 i, .int .i64 s] w fun e w' => e = .returned (.tuple #[.pointer (some ⟨g, 3 * (2 * i + (1 - s)), none⟩), .int .i64 0]) ∧ w = w' :=
  from_lit w nb _ g cap _ _ i _ (to_good w nb n g cap ps h i s hi hs) (to_good w nb n g cap ps h i (1 - s) hi (by omega)) (by omega) (by omega)

end Go.Proofs.Ytnbjbjpfleiogaa
