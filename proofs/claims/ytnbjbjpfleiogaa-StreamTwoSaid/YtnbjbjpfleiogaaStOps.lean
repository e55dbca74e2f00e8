/- Write, Arrive, Read, Close, Ended, Pending of package stream where the connection and the side are there, each by its contract; conditions: no pipe holds more than may be. -/
import Derived.Test.YtnbjbjpfleiogaaStMem
import Derived.BigRegion
import Derived.BigQuiet
import Derived.Deep.QuietTactic
namespace Go.Proofs.Ytnbjbjpfleiogaa
open Go.RowKit

set_option linter.unusedSectionVars false

theorem set_same {ps : List Pipe} {q : Nat} : ps.set q (ps.getD q pipe0) = ps := by
  by_cases h : q < ps.length
  · simp [List.getD, h]
  · rw [List.set_eq_of_length_le (by omega)]

/-- What a call of one pipe leaves. -/
def OpE (nb : Nat) (v : Value) (ps : List Pipe) (n q : Nat) (p' : Pipe) (r : Value) (w : World) (e : Ending) (w' : World) : Prop :=
  e = .returned r ∧ IsNet w' nb v (ps.set q p') n ∧ Chg v.ownBlock.toList w w'

section
variable (w : World) (nb n : Nat) (v : Value) (ps : List Pipe) (h : IsNet w nb v ps n) (ok : NetOk ps n) (i s : Nat) (hi : i < n) (hs : s < 2)
include h ok hi hs

set_option maxRecDepth 100000 in
set_option maxHeartbeats 1000000 in
theorem write_good (d : ByteArray) (hd : d.size ≤ 140737488355328) :
    Calls Try.prog 12 #[.pointer (some ⟨nb, 0, none⟩), .int .i64 i, .int .i64 s, .string d] w (OpE nb v ps n (2 * i + (1 - s)) (wrP (ps.getD (2 * i + (1 - s)) pipe0) d) (.int .i64 (wrE (ps.getD (2 * i + (1 - s)) pipe0) d)) w) := by
  have hq : 2 * i + (1 - s) < ps.length := by have := h.len; omega
  obtain ⟨g, cap, rfl, hlt, fz, c0, c1, c2⟩ := h.pipe hq
  have hF := from_good w nb n g cap ps h i s hi hs
  have hset := Lib.hid (h.set hq).1
  have hfit := ok.fit (2 * i + (1 - s))
  have hsame := Lib.hid (set_same (ps := ps) (q := 2 * i + (1 - s)))
  have H := Lib.hid h
  clear h
  unfold Fits at hfit
  unfold OpE
  generalize 2 * i + (1 - s) = q at hF c0 c1 c2 hset hfit hsame hq ⊢
  generalize hp : ps.getD q pipe0 = p at c0 c1 c2 hset hfit hsame ⊢
  obtain ⟨wy, he, sh⟩ := p
  dsimp only at c0 c1 c2 hset hfit
  have f0 := fz (3 * q)
  cases sh with
  | true =>
    rw [show wrE ⟨wy, he, true⟩ d = 20 from rfl, show wrP ⟨wy, he, true⟩ d = ⟨wy, he, true⟩ from rfl]
    go_enter Try.func12, Try.ntmps12
    go_wp2_with (go_at_call 20; refine hF.mono ?_; rintro e w1 ⟨rfl, rfl⟩)
    go_ret
    exact ⟨rfl, by rw [hsame.out]; exact H.out, Chg.refl _ _⟩
  | false =>
    by_cases hl : 262144 < wy.size + he.size + d.size
    · rw [show wrE ⟨wy, he, false⟩ d = 2 by simp [wrE, hl], show wrP ⟨wy, he, false⟩ d = ⟨wy, he, false⟩ by simp [wrP, hl]]
      go_enter Try.func12, Try.ntmps12
      go_upto_region 6 with (go_at_call 20; refine hF.mono ?_; rintro e w1 ⟨rfl, rfl⟩)
      go_quiet (fail)
      go_wp2_with fail
      go_ret
      exact ⟨rfl, by rw [hsame.out]; exact ⟨H.out.net, H.out.row⟩, by (repeat first | with_reducible refine Chg.drew ?_ | with_reducible refine Chg.drewN ?_ _ | with_reducible refine Chg.alloc ?_ _ | with_reducible refine Chg.setCell ?_ (by first | exact .inl (by simp) | exact .inr (by dsimp only; omega)) _); exact Chg.refl _ _⟩
    · rw [show wrE ⟨wy, he, false⟩ d = 0 by simp [wrE, hl], show wrP ⟨wy, he, false⟩ d = ⟨wy ++ d, he, false⟩ by simp [wrP, hl]]
      go_enter Try.func12, Try.ntmps12
      go_upto_region 6 with (go_at_call 20; refine hF.mono ?_; rintro e w1 ⟨rfl, rfl⟩)
      go_quiet (fail)
      go_wp2_with fail
      go_ret
      have := hset.out (wy ++ d)
      exact ⟨rfl, ⟨this.net, this.row⟩, by show Chg [g] _ _; (repeat first | with_reducible refine Chg.drew ?_ | with_reducible refine Chg.drewN ?_ _ | with_reducible refine Chg.alloc ?_ _ | with_reducible refine Chg.setCell ?_ (by first | exact .inl (by simp) | exact .inr (by dsimp only; omega)) _); exact Chg.refl _ _⟩

set_option maxRecDepth 100000 in
set_option maxHeartbeats 1000000 in
theorem close_good :
    Calls Try.prog 16 #[.pointer (some ⟨nb, 0, none⟩), .int .i64 i, .int .i64 s] w (OpE nb v ps n (2 * i + (1 - s)) (clP (ps.getD (2 * i + (1 - s)) pipe0)) (.int .i64 (clE (ps.getD (2 * i + (1 - s)) pipe0))) w) := by
  have hq : 2 * i + (1 - s) < ps.length := by have := h.len; omega
  obtain ⟨g, cap, rfl, hlt, fz, c0, c1, c2⟩ := h.pipe hq
  have hF := from_good w nb n g cap ps h i s hi hs
  have hset := Lib.hid (h.set hq).2.2
  have hsame := Lib.hid (set_same (ps := ps) (q := 2 * i + (1 - s)))
  have H := Lib.hid h
  clear h
  unfold OpE
  generalize 2 * i + (1 - s) = q at hF c0 c1 c2 hset hsame hq ⊢
  generalize hp : ps.getD q pipe0 = p at c0 c1 c2 hset hsame ⊢
  obtain ⟨wy, he, sh⟩ := p
  dsimp only at c0 c1 c2 hset
  have f2 := fz (3 * q + 2)
  cases sh with
  | true =>
    go_enter Try.func16, Try.ntmps16
    go_wp2_with (go_at_call 20; refine hF.mono ?_; rintro e w1 ⟨rfl, rfl⟩)
    go_ret
    exact ⟨rfl, by show IsNet _ _ _ (ps.set q ⟨wy, he, true⟩) _; rw [hsame.out]; exact H.out, Chg.refl _ _⟩
  | false =>
    go_enter Try.func16, Try.ntmps16
    go_wp2_with (go_at_call 20; refine hF.mono ?_; rintro e w1 ⟨rfl, rfl⟩)
    go_ret
    exact ⟨rfl, hset.out true, by show Chg [g] _ _; (repeat first | with_reducible refine Chg.drew ?_ | with_reducible refine Chg.drewN ?_ _ | with_reducible refine Chg.alloc ?_ _ | with_reducible refine Chg.setCell ?_ (by first | exact .inl (by simp) | exact .inr (by dsimp only; omega)) _); exact Chg.refl _ _⟩

set_option maxRecDepth 100000 in
set_option maxHeartbeats 1000000 in
theorem ended_good :
    Calls Try.prog 17 #[.pointer (some ⟨nb, 0, none⟩), .int .i64 i, .int .i64 s] w fun e w' => e = .returned (.tuple #[.bool (enB (ps.getD (2 * i + s) pipe0)), .int .i64 0]) ∧ w = w' := by
  have hq : 2 * i + s < ps.length := by have := h.len; omega
  obtain ⟨g, cap, rfl, hlt, fz, c0, c1, c2⟩ := h.pipe hq
  have hF := to_good w nb n g cap ps h i s hi hs
  clear h fz
  generalize 2 * i + s = q at hF c0 c1 c2 hq ⊢
  generalize hp : ps.getD q pipe0 = p at c0 c1 c2 ⊢
  obtain ⟨wy, he, sh⟩ := p
  dsimp only at c0 c1 c2
  cases sh with
  | false =>
    go_enter Try.func17, Try.ntmps17
    go_wp2_with (go_at_call 21; refine hF.mono ?_; rintro e w1 ⟨rfl, rfl⟩)
    go_ret2
    exact ⟨rfl, rfl⟩
  | true =>
    cases hw : wy.toList.isEmpty with
    | true =>
      rw [show enB ⟨wy, he, true⟩ = he.toList.isEmpty by simp [enB, hw]]
      go_enter Try.func17, Try.ntmps17
      go_wp2_with (go_at_call 21; refine hF.mono ?_; rintro e w1 ⟨rfl, rfl⟩)
      go_ret2
      exact ⟨rfl, rfl⟩
    | false =>
      rw [show enB ⟨wy, he, true⟩ = false by simp [enB, hw]]
      go_enter Try.func17, Try.ntmps17
      go_wp2_with (go_at_call 21; refine hF.mono ?_; rintro e w1 ⟨rfl, rfl⟩)
      go_ret2
      exact ⟨rfl, rfl⟩

set_option maxRecDepth 100000 in
set_option maxHeartbeats 1000000 in
theorem pending_good :
    Calls Try.prog 15 #[.pointer (some ⟨nb, 0, none⟩), .int .i64 i, .int .i64 s] w fun e w' => e = .returned (.tuple #[.int .i64 (ps.getD (2 * i + s) pipe0).way.size, .int .i64 (ps.getD (2 * i + s) pipe0).here.size, .int .i64 0]) ∧ Below w.heap.size w w' := by
  have hq : 2 * i + s < ps.length := by have := h.len; omega
  obtain ⟨g, cap, rfl, hlt, fz, c0, c1, c2⟩ := h.pipe hq
  have hF := to_good w nb n g cap ps h i s hi hs
  clear h fz
  generalize 2 * i + s = q at hF c0 c1 c2 hq ⊢
  generalize hp : ps.getD q pipe0 = p at c0 c1 c2 ⊢
  obtain ⟨wy, he, sh⟩ := p
  dsimp only at c0 c1 c2
  go_enter Try.func15, Try.ntmps15
  go_upto_region 4 with (go_at_call 21; refine hF.mono ?_; rintro e w1 ⟨rfl, rfl⟩)
  go_quiet (fail)
  go_wp2_with fail
  go_ret3
  exact ⟨rfl, by (repeat first | with_reducible refine Below.drew ?_ | with_reducible refine below_drewN ?_ _ | with_reducible refine Below.alloc ?_ (by simp only [World.size_alloc, World.size_setCell, World.size_drew, World.heap_drewN]; omega) _ | with_reducible refine Below.setCell ?_ (by dsimp only; omega) _); exact Below.refl _ _⟩

set_option maxRecDepth 100000 in
set_option maxHeartbeats 1000000 in
theorem read_good (m : Nat) (hm : m ≤ 9223372036854775807) :
    Calls Try.prog 14 #[.pointer (some ⟨nb, 0, none⟩), .int .i64 i, .int .i64 s, .int .i64 m] w (OpE nb v ps n (2 * i + s) (rdP (ps.getD (2 * i + s) pipe0) m) (.tuple #[.string (rdS (ps.getD (2 * i + s) pipe0) m), .int .i64 0]) w) := by
  have hq : 2 * i + s < ps.length := by have := h.len; omega
  obtain ⟨g, cap, rfl, hlt, fz, c0, c1, c2⟩ := h.pipe hq
  have hF := to_good w nb n g cap ps h i s hi hs
  have hset := Lib.hid (h.set hq).2.1
  have hfit := ok.fit (2 * i + s)
  clear h
  unfold Fits at hfit
  unfold OpE
  generalize 2 * i + s = q at hF c0 c1 c2 hset hfit hq ⊢
  generalize hp : ps.getD q pipe0 = p at c0 c1 c2 hset hfit ⊢
  obtain ⟨wy, he, sh⟩ := p
  dsimp only at c0 c1 c2 hset hfit
  have f1 := fz (3 * q + 1)
  by_cases hl : m ≤ he.size
  · rw [show rdS ⟨wy, he, sh⟩ m = he.extract 0 m by simp [rdS, rdN, Nat.min_eq_left hl], show rdP ⟨wy, he, sh⟩ m = ⟨wy, he.extract m he.size, sh⟩ by simp [rdP, rdN, Nat.min_eq_left hl]]
    go_enter Try.func14, Try.ntmps14
    go_wp2_with (go_at_call 21; refine hF.mono ?_; rintro e w1 ⟨rfl, rfl⟩)
    go_ret2
    exact ⟨rfl, hset.out _, by show Chg [g] _ _; (repeat first | with_reducible refine Chg.drew ?_ | with_reducible refine Chg.drewN ?_ _ | with_reducible refine Chg.alloc ?_ _ | with_reducible refine Chg.setCell ?_ (by first | exact .inl (by simp) | exact .inr (by dsimp only; omega)) _); exact Chg.refl _ _⟩
  · rw [show rdS ⟨wy, he, sh⟩ m = he by simp [rdS, rdN, Nat.min_eq_right (Nat.le_of_not_le hl)], show rdP ⟨wy, he, sh⟩ m = ⟨wy, ByteArray.empty, sh⟩ by simp [rdP, rdN, Nat.min_eq_right (Nat.le_of_not_le hl)]]
    go_enter Try.func14, Try.ntmps14
    go_wp2_with (go_at_call 21; refine hF.mono ?_; rintro e w1 ⟨rfl, rfl⟩)
    go_ret2
    exact ⟨rfl, hset.out _, by show Chg [g] _ _; (repeat first | with_reducible refine Chg.drew ?_ | with_reducible refine Chg.drewN ?_ _ | with_reducible refine Chg.alloc ?_ _ | with_reducible refine Chg.setCell ?_ (by first | exact .inl (by simp) | exact .inr (by dsimp only; omega)) _); exact Chg.refl _ _⟩

set_option maxRecDepth 100000 in
set_option maxHeartbeats 1000000 in
theorem arrive_good (m : Nat) (hm : m ≤ 9223372036854775807) :
    Calls Try.prog 13 #[.pointer (some ⟨nb, 0, none⟩), .int .i64 i, .int .i64 s, .int .i64 m] w (OpE nb v ps n (2 * i + s) (arP (ps.getD (2 * i + s) pipe0) m) (.tuple #[.int .i64 (arN (ps.getD (2 * i + s) pipe0) m), .int .i64 0]) w) := by
  have hq : 2 * i + s < ps.length := by have := h.len; omega
  obtain ⟨g, cap, rfl, hlt, fz, c0, c1, c2⟩ := h.pipe hq
  have hF := to_good w nb n g cap ps h i s hi hs
  have hset := Lib.hid (fun (a b : ByteArray) => ((h.set hq).2.1 a).set (q := 2 * i + s) (by simpa using hq) |>.1 b)
  have hfit := ok.fit (2 * i + s)
  clear h
  unfold Fits at hfit
  unfold OpE
  generalize 2 * i + s = q at hF c0 c1 c2 hset hfit hq ⊢
  have e0 : ∀ p, (ps.set q p).getD q pipe0 = p := fun p => by rw [getD_set hq, if_pos rfl]
  simp only [e0, List.set_set] at hset
  generalize hp : ps.getD q pipe0 = p at c0 c1 c2 hset hfit ⊢
  obtain ⟨wy, he, sh⟩ := p
  dsimp only at c0 c1 c2 hset hfit
  have f0 := fz (3 * q)
  have f1 := fz (3 * q + 1)
  by_cases hl : m ≤ wy.size
  · rw [show arN ⟨wy, he, sh⟩ m = m by simp [arN, Nat.min_eq_left hl], show arP ⟨wy, he, sh⟩ m = ⟨wy.extract m wy.size, he ++ wy.extract 0 m, sh⟩ by simp [arP, arN, Nat.min_eq_left hl]]
    go_enter Try.func13, Try.ntmps13
    go_upto_region 7 with (go_at_call 21; refine hF.mono ?_; rintro e w1 ⟨rfl, rfl⟩)
    clear hF
    go_region
    go_wp2_with fail
    go_ret2
    have := hset.out (he ++ wy.extract 0 m) (wy.extract m wy.size)
    exact ⟨rfl, ⟨this.net, this.row⟩, by show Chg [g] _ _; (repeat first | with_reducible refine Chg.drew ?_ | with_reducible refine Chg.drewN ?_ _ | with_reducible refine Chg.alloc ?_ _ | with_reducible refine Chg.setCell ?_ (by first | exact .inl (by simp) | exact .inr (by dsimp only; omega)) _); exact Chg.refl _ _⟩
  · rw [show arN ⟨wy, he, sh⟩ m = wy.size by simp [arN, Nat.min_eq_right (Nat.le_of_not_le hl)], show arP ⟨wy, he, sh⟩ m = ⟨ByteArray.empty, he ++ wy, sh⟩ by simp [arP, arN, Nat.min_eq_right (Nat.le_of_not_le hl)]]
    go_enter Try.func13, Try.ntmps13
    go_upto_region 7 with (go_at_call 21; refine hF.mono ?_; rintro e w1 ⟨rfl, rfl⟩)
    clear hF
    go_region
    go_wp2_with fail
    go_ret2
    have := hset.out (he ++ wy) ByteArray.empty
    exact ⟨rfl, ⟨this.net, this.row⟩, by show Chg [g] _ _; (repeat first | with_reducible refine Chg.drew ?_ | with_reducible refine Chg.drewN ?_ _ | with_reducible refine Chg.alloc ?_ _ | with_reducible refine Chg.setCell ?_ (by first | exact .inl (by simp) | exact .inr (by dsimp only; omega)) _); exact Chg.refl _ _⟩
end

end Go.Proofs.Ytnbjbjpfleiogaa
