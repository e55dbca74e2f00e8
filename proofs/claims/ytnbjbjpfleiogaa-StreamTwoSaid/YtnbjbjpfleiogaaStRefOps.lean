/- New, wrong and the calls of the document's net, each by its contract; conditions: the connection and the side are there. -/
import Derived.Test.YtnbjbjpfleiogaaStRef
import Derived.Laws.DeepStrings4
namespace Go.Proofs.Ytnbjbjpfleiogaa
open Go.RowKit

theorem rnew_any (w : World) : Calls Try.prog 18 #[] w fun e w' => e = .returned (.pointer (some ⟨w.heap.size, 0, none⟩)) ∧ IsRef w' w.heap.size (.slice none 0 0) [] 0 ∧ Below w.heap.size w w' := by
  go_enter Try.func18, Try.ntmps18
  go_wp2
  go_ret
  exact ⟨rfl, ⟨Blk.new _ _ _, World.ownsRow_nil _ _ _ _⟩, (Below.refl _ _).alloc (Nat.le_refl _) _⟩

set_option maxRecDepth 100000 in
theorem wrong_any (w : World) (nb n : Nat) (v : Value) (ys : List Way) (h : IsRef w nb v ys n) (conn side : Int) :
    Calls Try.prog 29 #[.pointer (some ⟨nb, 0, none⟩), .int .i64 conn, .int .i64 side] w fun e w' => e = .returned (.int .i64 (toE n conn side)) ∧ w = w' := by
  obtain ⟨A, cap, rfl, _⟩ := h.form
  have c0 := h.net.at 0 rfl
  unfold toE
  clear h
  by_cases h1 : conn < 0
  · rw [if_pos (.inl h1)]
    go_enter Try.func29, Try.ntmps29
    go_wp2
    go_ret
    exact ⟨rfl, rfl⟩
  by_cases h2 : (n : Int) ≤ conn
  · rw [if_pos (.inr h2)]
    go_enter Try.func29, Try.ntmps29
    go_wp2
    go_ret
    exact ⟨rfl, rfl⟩
  rw [if_neg (by omega)]
  by_cases h3 : side < 0
  · rw [if_pos (by omega)]
    go_enter Try.func29, Try.ntmps29
    go_wp2
    go_ret
    exact ⟨rfl, rfl⟩
  by_cases h4 : 1 < side
  · rw [if_pos (by omega)]
    go_enter Try.func29, Try.ntmps29
    go_wp2
    go_ret
    exact ⟨rfl, rfl⟩
  rw [if_neg (by omega)]
  go_enter Try.func29, Try.ntmps29
  go_wp2
  go_ret
  exact ⟨rfl, rfl⟩

theorem toE_good (n i s : Nat) (hi : i < n) (hs : s < 2) : toE n i s = 0 := by
  unfold toE
  rw [if_neg (by omega), if_neg (by omega)]

section
variable {w : World} {nb n : Nat} {v : Value} {ys : List Way}
theorem IsRef.wayAt (h : IsRef w nb v ys n) {q : Nat} (hq : q < ys.length) (o0 o1 o2 o3 : Nat) (e0 : o0 = 4 * q) (e1 : o1 = 4 * q + 1) (e2 : o2 = 4 * q + 2) (e3 : o3 = 4 * q + 3) :
    ∃ g cap, v = .slice (some ⟨g, 0, none⟩) n cap ∧ g < w.heap.size ∧ (∀ j, w.frozen? ⟨g, j, none⟩ = false) ∧ w.cell? ⟨g, o0, none⟩ = some (.string (ys.getD q way0).all) ∧
    w.cell? ⟨g, o1, none⟩ = some (.int .i64 (ys.getD q way0).came) ∧ w.cell? ⟨g, o2, none⟩ = some (.int .i64 (ys.getD q way0).taken) ∧ w.cell? ⟨g, o3, none⟩ = some (.bool (ys.getD q way0).shut) ∧ n ≤ cap := by
  subst e0 e1 e2 e3; exact h.way hq
theorem IsRef.put (h : IsRef w nb v ys n) {q : Nat} (hq : q < ys.length) (o0 o1 o2 o3 : Nat) (e0 : o0 = 4 * q) (e1 : o1 = 4 * q + 1) (e2 : o2 = 4 * q + 2) (e3 : o3 = 4 * q + 3) :
    ∀ g cap, v = .slice (some ⟨g, 0, none⟩) n cap → (∀ s, IsRef (w.setCell ⟨g, o0, none⟩ (.string s)) nb v (ys.set q { ys.getD q way0 with all := s }) n) ∧ (∀ s : Nat, IsRef (w.setCell ⟨g, o1, none⟩ (.int .i64 s)) nb v (ys.set q { ys.getD q way0 with came := s }) n) ∧
      (∀ s : Nat, IsRef (w.setCell ⟨g, o2, none⟩ (.int .i64 s)) nb v (ys.set q { ys.getD q way0 with taken := s }) n) ∧ (∀ s, IsRef (w.setCell ⟨g, o3, none⟩ (.bool s)) nb v (ys.set q { ys.getD q way0 with shut := s }) n) := by
  rintro g cap rfl
  subst e0 e1 e2 e3
  obtain ⟨s0, s1, s2, s3⟩ := refCells_set ys q hq
  have hl := refCells_len ys
  exact ⟨fun s => h.cell (by omega) (s0 s), fun s => h.cell (by omega) (s1 s), fun s => h.cell (by omega) (s2 s), fun s => h.cell (by omega) (s3 s)⟩
theorem IsRef.put4 (h : IsRef w nb v ys n) {q : Nat} (hq : q < ys.length) (a : ByteArray) (c t : Nat) (b : Bool) (o0 o1 o2 o3 : Nat) (e0 : o0 = 4 * q) (e1 : o1 = 4 * q + 1) (e2 : o2 = 4 * q + 2) (e3 : o3 = 4 * q + 3) (g cap : Nat) (hv : v = .slice (some ⟨g, 0, none⟩) n cap) :
    IsRef ((((w.setCell ⟨g, o0, none⟩ (.string a)).setCell ⟨g, o1, none⟩ (.int .i64 c)).setCell ⟨g, o2, none⟩ (.int .i64 t)).setCell ⟨g, o3, none⟩ (.bool b)) nb v (ys.set q ⟨a, c, t, b⟩) n := by
  have hs : ∀ y : Way, q < (ys.set q y).length := fun y => by simpa using hq
  have hg : ∀ y : Way, (ys.set q y).getD q way0 = y := fun y => by rw [getD_set hq, if_pos rfl]
  have h1 := (h.put hq o0 o1 o2 o3 e0 e1 e2 e3 g cap hv).1 a
  have h2 := (h1.put (hs _) o0 o1 o2 o3 e0 e1 e2 e3 g cap hv).2.1 c
  rw [hg, List.set_set] at h2
  have h3 := (h2.put (hs _) o0 o1 o2 o3 e0 e1 e2 e3 g cap hv).2.2.1 t
  rw [hg, List.set_set] at h3
  have h4 := (h3.put (hs _) o0 o1 o2 o3 e0 e1 e2 e3 g cap hv).2.2.2 b
  rw [hg, List.set_set] at h4
  exact h4
theorem IsRef.new (h : IsRef w nb v ys n) (o : Obj) : IsRef (w.alloc o) nb v ys n := h.chg ((Chg.refl [] w).alloc o) (by simp) (by simp)
theorem IsRef.drew (h : IsRef w nb v ys n) : IsRef w.drew nb v ys n := ⟨h.net, h.row⟩
end

def wrEY (y : Way) (d : ByteArray) : Int := if y.shut then 20 else if 262144 < y.all.size - y.taken + d.size then 2 else 0
def wrWY (y : Way) (d : ByteArray) : Way := if y.shut then y else if 262144 < y.all.size - y.taken + d.size then y else { y with all := y.all ++ d }
def clEY (y : Way) : Int := if y.shut then 20 else 0
theorem setY_same {ys : List Way} {q : Nat} : ys.set q (ys.getD q way0) = ys := by
  by_cases h : q < ys.length
  · simp [List.getD, h]
  · rw [List.set_eq_of_length_le (by omega)]

section
variable (w : World) (nb n : Nat) (v : Value) (ys : List Way) (h : IsRef w nb v ys n) (i s : Nat) (hi : i < n) (hs : s < 2)
include h hi hs

set_option maxRecDepth 100000 in
set_option maxHeartbeats 2000000 in
theorem rpending_good  (hz : (ys.getD (2 * i + s) way0).all.size ≤ 1000000000) (hc : (ys.getD (2 * i + s) way0).came ≤ (ys.getD (2 * i + s) way0).all.size) (ht : (ys.getD (2 * i + s) way0).taken ≤ (ys.getD (2 * i + s) way0).came) :
    Calls Try.prog 28 #[.pointer (some ⟨nb, 0, none⟩), .int .i64 i, .int .i64 s] w fun e w' => e = .returned (.tuple #[.int .i64 (((ys.getD (2 * i + s) way0).all.size : Int) - ((ys.getD (2 * i + s) way0).came : Int)), .int .i64 (((ys.getD (2 * i + s) way0).came : Int) - ((ys.getD (2 * i + s) way0).taken : Int)), .int .i64 0]) ∧ Below w.heap.size w w' := by
  have hq : 2 * i + s < ys.length := by have := h.len; omega
  have hW := fun W (h : IsRef W nb v ys n) => wrong_any W nb n v ys h i s
  rw [toE_good n i s hi hs] at hW
  rcases (by omega : s = 0 ∨ s = 1) with rfl | rfl
  · obtain ⟨g, cap, rfl, hlt, fz, c0, c1, c2, c3, hcap⟩ := h.wayAt hq (i * 8) (i * 8 + 1) (i * 8 + 2) (i * 8 + 3) (by omega) (by omega) (by omega) (by omega)
    have n0 := h.net.at 0 rfl
    have nlt := h.net.lt
    have H := Lib.hid h
    have HN := Lib.hid (h.ne g rfl)
    generalize hy : ys.getD (2 * i + 0) way0 = y at hz hc ht c0 c1 c2 c3 ⊢
    have HY := Lib.hid hy
    obtain ⟨al, cm, tk, sh⟩ := y
    dsimp only at hz hc ht c0 c1 c2 c3 ⊢
    clear h hy
    have f0 := fz (i * 8)
    have f1 := fz (i * 8 + 1)
    have f2 := fz (i * 8 + 2)
    have f3 := fz (i * 8 + 3)
    go_enter Try.func28, Try.ntmps28
    go_upto_region 5 with (go_at_call 29; refine (hW _ H.out).mono ?_; rintro e w1 ⟨rfl, rfl⟩)
    go_quiet (fail)
    go_wp2_with fail
    go_ret3
    exact ⟨rfl, by first | exact (Below.refl _ _).alloc (Nat.le_refl _) _ | exact below_drewN ((Below.refl _ _).alloc (Nat.le_refl _) _) _⟩
  · obtain ⟨g, cap, rfl, hlt, fz, c0, c1, c2, c3, hcap⟩ := h.wayAt hq (i * 8 + 4) (i * 8 + 5) (i * 8 + 6) (i * 8 + 7) (by omega) (by omega) (by omega) (by omega)
    have n0 := h.net.at 0 rfl
    have nlt := h.net.lt
    have H := Lib.hid h
    have HN := Lib.hid (h.ne g rfl)
    generalize hy : ys.getD (2 * i + 1) way0 = y at hz hc ht c0 c1 c2 c3 ⊢
    have HY := Lib.hid hy
    obtain ⟨al, cm, tk, sh⟩ := y
    dsimp only at hz hc ht c0 c1 c2 c3 ⊢
    clear h hy
    have f0 := fz (i * 8 + 4)
    have f1 := fz (i * 8 + 5)
    have f2 := fz (i * 8 + 6)
    have f3 := fz (i * 8 + 7)
    go_enter Try.func28, Try.ntmps28
    go_upto_region 5 with (go_at_call 29; refine (hW _ H.out).mono ?_; rintro e w1 ⟨rfl, rfl⟩)
    go_quiet (fail)
    go_wp2_with fail
    go_ret3
    exact ⟨rfl, by first | exact (Below.refl _ _).alloc (Nat.le_refl _) _ | exact below_drewN ((Below.refl _ _).alloc (Nat.le_refl _) _) _⟩

set_option maxRecDepth 100000 in
set_option maxHeartbeats 2000000 in
theorem rended_good  (hz : (ys.getD (2 * i + s) way0).all.size ≤ 1000000000) (hc : (ys.getD (2 * i + s) way0).came ≤ (ys.getD (2 * i + s) way0).all.size) (ht : (ys.getD (2 * i + s) way0).taken ≤ (ys.getD (2 * i + s) way0).came) :
    Calls Try.prog 27 #[.pointer (some ⟨nb, 0, none⟩), .int .i64 i, .int .i64 s] w fun e w' => e = .returned (.tuple #[.bool ((ys.getD (2 * i + s) way0).shut && decide ((ys.getD (2 * i + s) way0).taken = (ys.getD (2 * i + s) way0).all.size)), .int .i64 0]) ∧ Below w.heap.size w w' := by
  have hq : 2 * i + s < ys.length := by have := h.len; omega
  have hW := fun W (h : IsRef W nb v ys n) => wrong_any W nb n v ys h i s
  rw [toE_good n i s hi hs] at hW
  rcases (by omega : s = 0 ∨ s = 1) with rfl | rfl
  · obtain ⟨g, cap, rfl, hlt, fz, c0, c1, c2, c3, hcap⟩ := h.wayAt hq (i * 8) (i * 8 + 1) (i * 8 + 2) (i * 8 + 3) (by omega) (by omega) (by omega) (by omega)
    have n0 := h.net.at 0 rfl
    have nlt := h.net.lt
    have H := Lib.hid h
    have HN := Lib.hid (h.ne g rfl)
    generalize hy : ys.getD (2 * i + 0) way0 = y at hz hc ht c0 c1 c2 c3 ⊢
    have HY := Lib.hid hy
    obtain ⟨al, cm, tk, sh⟩ := y
    dsimp only at hz hc ht c0 c1 c2 c3 ⊢
    clear h hy
    have f0 := fz (i * 8)
    have f1 := fz (i * 8 + 1)
    have f2 := fz (i * 8 + 2)
    have f3 := fz (i * 8 + 3)
    cases sh with
    | false =>
      go_enter Try.func27, Try.ntmps27
      go_wp2_with (go_at_call 29; refine (hW _ H.out).mono ?_; rintro e w1 ⟨rfl, rfl⟩)
      go_ret2
      exact ⟨rfl, by first | exact (Below.refl _ _).alloc (Nat.le_refl _) _ | exact below_drewN ((Below.refl _ _).alloc (Nat.le_refl _) _) _⟩
    | true =>
      by_cases he : tk = al.size
      · have he' : ((tk : Int) == (al.size : Int)) = true := by simp; omega
        rw [decide_eq_true he]
        clear he
        go_enter Try.func27, Try.ntmps27
        go_wp2_with (go_at_call 29; refine (hW _ H.out).mono ?_; rintro e w1 ⟨rfl, rfl⟩)
        go_ret2
        exact ⟨rfl, by first | exact (Below.refl _ _).alloc (Nat.le_refl _) _ | exact below_drewN ((Below.refl _ _).alloc (Nat.le_refl _) _) _⟩
      · have he' : ((tk : Int) == (al.size : Int)) = false := by simp; omega
        rw [decide_eq_false he]
        go_enter Try.func27, Try.ntmps27
        go_wp2_with (go_at_call 29; refine (hW _ H.out).mono ?_; rintro e w1 ⟨rfl, rfl⟩)
        go_ret2
        exact ⟨rfl, by first | exact (Below.refl _ _).alloc (Nat.le_refl _) _ | exact below_drewN ((Below.refl _ _).alloc (Nat.le_refl _) _) _⟩
  · obtain ⟨g, cap, rfl, hlt, fz, c0, c1, c2, c3, hcap⟩ := h.wayAt hq (i * 8 + 4) (i * 8 + 5) (i * 8 + 6) (i * 8 + 7) (by omega) (by omega) (by omega) (by omega)
    have n0 := h.net.at 0 rfl
    have nlt := h.net.lt
    have H := Lib.hid h
    have HN := Lib.hid (h.ne g rfl)
    generalize hy : ys.getD (2 * i + 1) way0 = y at hz hc ht c0 c1 c2 c3 ⊢
    have HY := Lib.hid hy
    obtain ⟨al, cm, tk, sh⟩ := y
    dsimp only at hz hc ht c0 c1 c2 c3 ⊢
    clear h hy
    have f0 := fz (i * 8 + 4)
    have f1 := fz (i * 8 + 5)
    have f2 := fz (i * 8 + 6)
    have f3 := fz (i * 8 + 7)
    cases sh with
    | false =>
      go_enter Try.func27, Try.ntmps27
      go_wp2_with (go_at_call 29; refine (hW _ H.out).mono ?_; rintro e w1 ⟨rfl, rfl⟩)
      go_ret2
      exact ⟨rfl, by first | exact (Below.refl _ _).alloc (Nat.le_refl _) _ | exact below_drewN ((Below.refl _ _).alloc (Nat.le_refl _) _) _⟩
    | true =>
      by_cases he : tk = al.size
      · have he' : ((tk : Int) == (al.size : Int)) = true := by simp; omega
        rw [decide_eq_true he]
        clear he
        go_enter Try.func27, Try.ntmps27
        go_wp2_with (go_at_call 29; refine (hW _ H.out).mono ?_; rintro e w1 ⟨rfl, rfl⟩)
        go_ret2
        exact ⟨rfl, by first | exact (Below.refl _ _).alloc (Nat.le_refl _) _ | exact below_drewN ((Below.refl _ _).alloc (Nat.le_refl _) _) _⟩
      · have he' : ((tk : Int) == (al.size : Int)) = false := by simp; omega
        rw [decide_eq_false he]
        go_enter Try.func27, Try.ntmps27
        go_wp2_with (go_at_call 29; refine (hW _ H.out).mono ?_; rintro e w1 ⟨rfl, rfl⟩)
        go_ret2
        exact ⟨rfl, by first | exact (Below.refl _ _).alloc (Nat.le_refl _) _ | exact below_drewN ((Below.refl _ _).alloc (Nat.le_refl _) _) _⟩

set_option maxRecDepth 100000 in
set_option maxHeartbeats 2000000 in
theorem rarrive_good (m : Nat) (hm : m ≤ 9223372036854775807) (hz : (ys.getD (2 * i + s) way0).all.size ≤ 1000000000) (hc : (ys.getD (2 * i + s) way0).came ≤ (ys.getD (2 * i + s) way0).all.size) (ht : (ys.getD (2 * i + s) way0).taken ≤ (ys.getD (2 * i + s) way0).came) :
    Calls Try.prog 24 #[.pointer (some ⟨nb, 0, none⟩), .int .i64 i, .int .i64 s, .int .i64 m] w fun e w' => e = .returned (.tuple #[.int .i64 (min m ((ys.getD (2 * i + s) way0).all.size - (ys.getD (2 * i + s) way0).came) : Nat), .int .i64 0]) ∧ IsRef w' nb v (ys.set (2 * i + s) (arW (ys.getD (2 * i + s) way0) m)) n ∧ Chg v.ownBlock.toList w w' := by
  have hq : 2 * i + s < ys.length := by have := h.len; omega
  have hW := fun W (h : IsRef W nb v ys n) => wrong_any W nb n v ys h i s
  rw [toE_good n i s hi hs] at hW
  rcases (by omega : s = 0 ∨ s = 1) with rfl | rfl
  · obtain ⟨g, cap, rfl, hlt, fz, c0, c1, c2, c3, hcap⟩ := h.wayAt hq (i * 8) (i * 8 + 1) (i * 8 + 2) (i * 8 + 3) (by omega) (by omega) (by omega) (by omega)
    have n0 := h.net.at 0 rfl
    have nlt := h.net.lt
    have H := Lib.hid h
    have HN := Lib.hid (h.ne g rfl)
    generalize hy : ys.getD (2 * i + 0) way0 = y at hz hc ht c0 c1 c2 c3 ⊢
    have HY := Lib.hid hy
    obtain ⟨al, cm, tk, sh⟩ := y
    dsimp only at hz hc ht c0 c1 c2 c3 ⊢
    clear h hy
    have f0 := fz (i * 8)
    have f1 := fz (i * 8 + 1)
    have f2 := fz (i * 8 + 2)
    have f3 := fz (i * 8 + 3)
    by_cases hl : m ≤ al.size - cm
    · rw [show min m (al.size - cm) = m by omega]
      have hk : ((m : Nat) : Int) = m := by omega
      have hk2 : ((cm + m : Nat) : Int) = (cm : Int) + (m : Int) := by omega
      have HK := Lib.hid (And.intro hk hk2)
      have hm1 : (m : Int) ≤ (al.size : Int) - (cm : Int) := by omega
      clear hk hk2
      go_enter Try.func24, Try.ntmps24
      go_upto_region 8 with (go_at_call 29; refine (hW _ H.out).mono ?_; rintro e w1 ⟨rfl, rfl⟩)
      go_region
      go_wp2_with fail
      go_ret2
      have hI := (H.out.put hq (i * 8) (i * 8 + 1) (i * 8 + 2) (i * 8 + 3) (by omega) (by omega) (by omega) (by omega) g cap rfl).2.1 (cm + m)
      rw [HY.out, HK.out.2] at hI
      have hI := (hI.new (.cells #[.string al, .int .i64 cm, .int .i64 tk, .bool sh] 64)).drew
      refine ⟨rfl, ?_, by show Chg [g] _ _; (repeat first | with_reducible refine Chg.drew ?_ | with_reducible refine Chg.drewN ?_ _ | with_reducible refine Chg.alloc ?_ _ | with_reducible refine Chg.setCell ?_ (by first | exact .inl (by simp) | exact .inr (by dsimp only; omega)) _); exact Chg.refl _ _⟩
      show IsRef _ _ _ (ys.set _ ⟨al, cm + min m (al.size - cm), tk, sh⟩) _
      rw [show min m (al.size - cm) = m by omega]
      exact ⟨hI.net, hI.row⟩
    · rw [show min m (al.size - cm) = (al.size - cm) by omega]
      have hk : (((al.size - cm) : Nat) : Int) = (al.size : Int) - (cm : Int) := by omega
      have hk2 : ((cm + (al.size - cm) : Nat) : Int) = (cm : Int) + ((al.size : Int) - (cm : Int)) := by omega
      have HK := Lib.hid (And.intro hk hk2)
      have hm1 : (al.size : Int) - (cm : Int) < (m : Int) := by omega
      clear hk hk2
      go_enter Try.func24, Try.ntmps24
      go_upto_region 8 with (go_at_call 29; refine (hW _ H.out).mono ?_; rintro e w1 ⟨rfl, rfl⟩)
      go_region
      go_wp2_with fail
      go_ret2
      have hI := (H.out.put hq (i * 8) (i * 8 + 1) (i * 8 + 2) (i * 8 + 3) (by omega) (by omega) (by omega) (by omega) g cap rfl).2.1 (cm + (al.size - cm))
      rw [HY.out, HK.out.2] at hI
      have hI := (hI.new (.cells #[.string al, .int .i64 cm, .int .i64 tk, .bool sh] 64)).drew
      refine ⟨by rw [HK.out.1]; rfl, ?_, by show Chg [g] _ _; (repeat first | with_reducible refine Chg.drew ?_ | with_reducible refine Chg.drewN ?_ _ | with_reducible refine Chg.alloc ?_ _ | with_reducible refine Chg.setCell ?_ (by first | exact .inl (by simp) | exact .inr (by dsimp only; omega)) _); exact Chg.refl _ _⟩
      show IsRef _ _ _ (ys.set _ ⟨al, cm + min m (al.size - cm), tk, sh⟩) _
      rw [show min m (al.size - cm) = (al.size - cm) by omega]
      exact ⟨hI.net, hI.row⟩
  · obtain ⟨g, cap, rfl, hlt, fz, c0, c1, c2, c3, hcap⟩ := h.wayAt hq (i * 8 + 4) (i * 8 + 5) (i * 8 + 6) (i * 8 + 7) (by omega) (by omega) (by omega) (by omega)
    have n0 := h.net.at 0 rfl
    have nlt := h.net.lt
    have H := Lib.hid h
    have HN := Lib.hid (h.ne g rfl)
    generalize hy : ys.getD (2 * i + 1) way0 = y at hz hc ht c0 c1 c2 c3 ⊢
    have HY := Lib.hid hy
    obtain ⟨al, cm, tk, sh⟩ := y
    dsimp only at hz hc ht c0 c1 c2 c3 ⊢
    clear h hy
    have f0 := fz (i * 8 + 4)
    have f1 := fz (i * 8 + 5)
    have f2 := fz (i * 8 + 6)
    have f3 := fz (i * 8 + 7)
    by_cases hl : m ≤ al.size - cm
    · rw [show min m (al.size - cm) = m by omega]
      have hk : ((m : Nat) : Int) = m := by omega
      have hk2 : ((cm + m : Nat) : Int) = (cm : Int) + (m : Int) := by omega
      have HK := Lib.hid (And.intro hk hk2)
      have hm1 : (m : Int) ≤ (al.size : Int) - (cm : Int) := by omega
      clear hk hk2
      go_enter Try.func24, Try.ntmps24
      go_upto_region 8 with (go_at_call 29; refine (hW _ H.out).mono ?_; rintro e w1 ⟨rfl, rfl⟩)
      go_region
      go_wp2_with fail
      go_ret2
      have hI := (H.out.put hq (i * 8 + 4) (i * 8 + 4 + 1) (i * 8 + 4 + 2) (i * 8 + 4 + 3) (by omega) (by omega) (by omega) (by omega) g cap rfl).2.1 (cm + m)
      rw [HY.out, HK.out.2] at hI
      have hI := (hI.new (.cells #[.string al, .int .i64 cm, .int .i64 tk, .bool sh] 64)).drew
      refine ⟨rfl, ?_, by show Chg [g] _ _; (repeat first | with_reducible refine Chg.drew ?_ | with_reducible refine Chg.drewN ?_ _ | with_reducible refine Chg.alloc ?_ _ | with_reducible refine Chg.setCell ?_ (by first | exact .inl (by simp) | exact .inr (by dsimp only; omega)) _); exact Chg.refl _ _⟩
      show IsRef _ _ _ (ys.set _ ⟨al, cm + min m (al.size - cm), tk, sh⟩) _
      rw [show min m (al.size - cm) = m by omega]
      exact ⟨hI.net, hI.row⟩
    · rw [show min m (al.size - cm) = (al.size - cm) by omega]
      have hk : (((al.size - cm) : Nat) : Int) = (al.size : Int) - (cm : Int) := by omega
      have hk2 : ((cm + (al.size - cm) : Nat) : Int) = (cm : Int) + ((al.size : Int) - (cm : Int)) := by omega
      have HK := Lib.hid (And.intro hk hk2)
      have hm1 : (al.size : Int) - (cm : Int) < (m : Int) := by omega
      clear hk hk2
      go_enter Try.func24, Try.ntmps24
      go_upto_region 8 with (go_at_call 29; refine (hW _ H.out).mono ?_; rintro e w1 ⟨rfl, rfl⟩)
      go_region
      go_wp2_with fail
      go_ret2
      have hI := (H.out.put hq (i * 8 + 4) (i * 8 + 4 + 1) (i * 8 + 4 + 2) (i * 8 + 4 + 3) (by omega) (by omega) (by omega) (by omega) g cap rfl).2.1 (cm + (al.size - cm))
      rw [HY.out, HK.out.2] at hI
      have hI := (hI.new (.cells #[.string al, .int .i64 cm, .int .i64 tk, .bool sh] 64)).drew
      refine ⟨by rw [HK.out.1]; rfl, ?_, by show Chg [g] _ _; (repeat first | with_reducible refine Chg.drew ?_ | with_reducible refine Chg.drewN ?_ _ | with_reducible refine Chg.alloc ?_ _ | with_reducible refine Chg.setCell ?_ (by first | exact .inl (by simp) | exact .inr (by dsimp only; omega)) _); exact Chg.refl _ _⟩
      show IsRef _ _ _ (ys.set _ ⟨al, cm + min m (al.size - cm), tk, sh⟩) _
      rw [show min m (al.size - cm) = (al.size - cm) by omega]
      exact ⟨hI.net, hI.row⟩

set_option maxRecDepth 100000 in
set_option maxHeartbeats 2000000 in
theorem rread_good (m : Nat) (hm : m ≤ 9223372036854775807) (hz : (ys.getD (2 * i + s) way0).all.size ≤ 1000000000) (hc : (ys.getD (2 * i + s) way0).came ≤ (ys.getD (2 * i + s) way0).all.size) (ht : (ys.getD (2 * i + s) way0).taken ≤ (ys.getD (2 * i + s) way0).came) :
    Calls Try.prog 25 #[.pointer (some ⟨nb, 0, none⟩), .int .i64 i, .int .i64 s, .int .i64 m] w fun e w' => e = .returned (.tuple #[.string ((ys.getD (2 * i + s) way0).all.extract (ys.getD (2 * i + s) way0).taken ((ys.getD (2 * i + s) way0).taken + min m ((ys.getD (2 * i + s) way0).came - (ys.getD (2 * i + s) way0).taken))), .int .i64 0]) ∧ IsRef w' nb v (ys.set (2 * i + s) (rdW (ys.getD (2 * i + s) way0) m)) n ∧ Chg v.ownBlock.toList w w' := by
  have hq : 2 * i + s < ys.length := by have := h.len; omega
  have hW := fun W (h : IsRef W nb v ys n) => wrong_any W nb n v ys h i s
  rw [toE_good n i s hi hs] at hW
  rcases (by omega : s = 0 ∨ s = 1) with rfl | rfl
  · obtain ⟨g, cap, rfl, hlt, fz, c0, c1, c2, c3, hcap⟩ := h.wayAt hq (i * 8) (i * 8 + 1) (i * 8 + 2) (i * 8 + 3) (by omega) (by omega) (by omega) (by omega)
    have n0 := h.net.at 0 rfl
    have nlt := h.net.lt
    have H := Lib.hid h
    have HN := Lib.hid (h.ne g rfl)
    generalize hy : ys.getD (2 * i + 0) way0 = y at hz hc ht c0 c1 c2 c3 ⊢
    have HY := Lib.hid hy
    obtain ⟨al, cm, tk, sh⟩ := y
    dsimp only at hz hc ht c0 c1 c2 c3 ⊢
    clear h hy
    have f0 := fz (i * 8)
    have f1 := fz (i * 8 + 1)
    have f2 := fz (i * 8 + 2)
    have f3 := fz (i * 8 + 3)
    by_cases hl : m ≤ cm - tk
    · rw [show min m (cm - tk) = m by omega]
      have hk2 : ((tk + m : Nat) : Int) = (tk : Int) + (m : Int) := by omega
      have HK := Lib.hid hk2
      have hm1 : (m : Int) ≤ (cm : Int) - (tk : Int) := by omega
      clear hk2
      go_enter Try.func25, Try.ntmps25
      go_upto_region 8 with (go_at_call 29; refine (hW _ H.out).mono ?_; rintro e w1 ⟨rfl, rfl⟩)
      go_region
      have B9 : Blk ((w.setCell ⟨g, i * 8 + 2, none⟩ (.int .i64 ((tk : Int) + (m : Int)))).alloc (.cells #[.string al, .int .i64 cm, .int .i64 tk, .bool sh] 64)).drew w.heap.size 64 #[.string al, .int .i64 cm, .int .i64 tk, .bool sh] := (Blk.new' _ _ _ (by simp)).drew
      have l0 := B9.at 0 rfl
      have l2 := B9.at 2 rfl
      have q1 : (tk : Int) + (m : Int) ≤ (al.size : Int) := by omega
      go_wp2_with fail
      go_ret2
      have hI := (H.out.put hq (i * 8) (i * 8 + 1) (i * 8 + 2) (i * 8 + 3) (by omega) (by omega) (by omega) (by omega) g cap rfl).2.2.1 (tk + m)
      rw [HY.out, HK.out] at hI
      have hI := (hI.new (.cells #[.string al, .int .i64 cm, .int .i64 tk, .bool sh] 64)).drew
      refine ⟨rfl, ?_, by show Chg [g] _ _; (repeat first | with_reducible refine Chg.drew ?_ | with_reducible refine Chg.drewN ?_ _ | with_reducible refine Chg.alloc ?_ _ | with_reducible refine Chg.setCell ?_ (by first | exact .inl (by simp) | exact .inr (by dsimp only; omega)) _); exact Chg.refl _ _⟩
      show IsRef _ _ _ (ys.set _ ⟨al, cm, tk + min m (cm - tk), sh⟩) _
      rw [show min m (cm - tk) = m by omega]
      exact ⟨hI.net, hI.row⟩
    · rw [show min m (cm - tk) = (cm - tk) by omega]
      have hk2 : ((tk + (cm - tk) : Nat) : Int) = (tk : Int) + ((cm : Int) - (tk : Int)) := by omega
      have HK := Lib.hid hk2
      have hm1 : (cm : Int) - (tk : Int) < (m : Int) := by omega
      clear hk2
      go_enter Try.func25, Try.ntmps25
      go_upto_region 8 with (go_at_call 29; refine (hW _ H.out).mono ?_; rintro e w1 ⟨rfl, rfl⟩)
      go_region
      have B9 : Blk ((w.setCell ⟨g, i * 8 + 2, none⟩ (.int .i64 ((tk : Int) + ((cm : Int) - (tk : Int))))).alloc (.cells #[.string al, .int .i64 cm, .int .i64 tk, .bool sh] 64)).drew w.heap.size 64 #[.string al, .int .i64 cm, .int .i64 tk, .bool sh] := (Blk.new' _ _ _ (by simp)).drew
      have l0 := B9.at 0 rfl
      have l2 := B9.at 2 rfl
      have q1 : (tk : Int) + ((cm : Int) - (tk : Int)) ≤ (al.size : Int) := by omega
      go_wp2_with fail
      go_ret2
      have hI := (H.out.put hq (i * 8) (i * 8 + 1) (i * 8 + 2) (i * 8 + 3) (by omega) (by omega) (by omega) (by omega) g cap rfl).2.2.1 (tk + (cm - tk))
      rw [HY.out, HK.out] at hI
      have hI := (hI.new (.cells #[.string al, .int .i64 cm, .int .i64 tk, .bool sh] 64)).drew
      refine ⟨by rw [show tk + (cm - tk) = cm by omega]; rfl, ?_, by show Chg [g] _ _; (repeat first | with_reducible refine Chg.drew ?_ | with_reducible refine Chg.drewN ?_ _ | with_reducible refine Chg.alloc ?_ _ | with_reducible refine Chg.setCell ?_ (by first | exact .inl (by simp) | exact .inr (by dsimp only; omega)) _); exact Chg.refl _ _⟩
      show IsRef _ _ _ (ys.set _ ⟨al, cm, tk + min m (cm - tk), sh⟩) _
      rw [show min m (cm - tk) = (cm - tk) by omega]
      exact ⟨hI.net, hI.row⟩
  · obtain ⟨g, cap, rfl, hlt, fz, c0, c1, c2, c3, hcap⟩ := h.wayAt hq (i * 8 + 4) (i * 8 + 5) (i * 8 + 6) (i * 8 + 7) (by omega) (by omega) (by omega) (by omega)
    have n0 := h.net.at 0 rfl
    have nlt := h.net.lt
    have H := Lib.hid h
    have HN := Lib.hid (h.ne g rfl)
    generalize hy : ys.getD (2 * i + 1) way0 = y at hz hc ht c0 c1 c2 c3 ⊢
    have HY := Lib.hid hy
    obtain ⟨al, cm, tk, sh⟩ := y
    dsimp only at hz hc ht c0 c1 c2 c3 ⊢
    clear h hy
    have f0 := fz (i * 8 + 4)
    have f1 := fz (i * 8 + 5)
    have f2 := fz (i * 8 + 6)
    have f3 := fz (i * 8 + 7)
    by_cases hl : m ≤ cm - tk
    · rw [show min m (cm - tk) = m by omega]
      have hk2 : ((tk + m : Nat) : Int) = (tk : Int) + (m : Int) := by omega
      have HK := Lib.hid hk2
      have hm1 : (m : Int) ≤ (cm : Int) - (tk : Int) := by omega
      clear hk2
      go_enter Try.func25, Try.ntmps25
      go_upto_region 8 with (go_at_call 29; refine (hW _ H.out).mono ?_; rintro e w1 ⟨rfl, rfl⟩)
      go_region
      have B9 : Blk ((w.setCell ⟨g, i * 8 + 4 + 2, none⟩ (.int .i64 ((tk : Int) + (m : Int)))).alloc (.cells #[.string al, .int .i64 cm, .int .i64 tk, .bool sh] 64)).drew w.heap.size 64 #[.string al, .int .i64 cm, .int .i64 tk, .bool sh] := (Blk.new' _ _ _ (by simp)).drew
      have l0 := B9.at 0 rfl
      have l2 := B9.at 2 rfl
      have q1 : (tk : Int) + (m : Int) ≤ (al.size : Int) := by omega
      go_wp2_with fail
      go_ret2
      have hI := (H.out.put hq (i * 8 + 4) (i * 8 + 4 + 1) (i * 8 + 4 + 2) (i * 8 + 4 + 3) (by omega) (by omega) (by omega) (by omega) g cap rfl).2.2.1 (tk + m)
      rw [HY.out, HK.out] at hI
      have hI := (hI.new (.cells #[.string al, .int .i64 cm, .int .i64 tk, .bool sh] 64)).drew
      refine ⟨rfl, ?_, by show Chg [g] _ _; (repeat first | with_reducible refine Chg.drew ?_ | with_reducible refine Chg.drewN ?_ _ | with_reducible refine Chg.alloc ?_ _ | with_reducible refine Chg.setCell ?_ (by first | exact .inl (by simp) | exact .inr (by dsimp only; omega)) _); exact Chg.refl _ _⟩
      show IsRef _ _ _ (ys.set _ ⟨al, cm, tk + min m (cm - tk), sh⟩) _
      rw [show min m (cm - tk) = m by omega]
      exact ⟨hI.net, hI.row⟩
    · rw [show min m (cm - tk) = (cm - tk) by omega]
      have hk2 : ((tk + (cm - tk) : Nat) : Int) = (tk : Int) + ((cm : Int) - (tk : Int)) := by omega
      have HK := Lib.hid hk2
      have hm1 : (cm : Int) - (tk : Int) < (m : Int) := by omega
      clear hk2
      go_enter Try.func25, Try.ntmps25
      go_upto_region 8 with (go_at_call 29; refine (hW _ H.out).mono ?_; rintro e w1 ⟨rfl, rfl⟩)
      go_region
      have B9 : Blk ((w.setCell ⟨g, i * 8 + 4 + 2, none⟩ (.int .i64 ((tk : Int) + ((cm : Int) - (tk : Int))))).alloc (.cells #[.string al, .int .i64 cm, .int .i64 tk, .bool sh] 64)).drew w.heap.size 64 #[.string al, .int .i64 cm, .int .i64 tk, .bool sh] := (Blk.new' _ _ _ (by simp)).drew
      have l0 := B9.at 0 rfl
      have l2 := B9.at 2 rfl
      have q1 : (tk : Int) + ((cm : Int) - (tk : Int)) ≤ (al.size : Int) := by omega
      go_wp2_with fail
      go_ret2
      have hI := (H.out.put hq (i * 8 + 4) (i * 8 + 4 + 1) (i * 8 + 4 + 2) (i * 8 + 4 + 3) (by omega) (by omega) (by omega) (by omega) g cap rfl).2.2.1 (tk + (cm - tk))
      rw [HY.out, HK.out] at hI
      have hI := (hI.new (.cells #[.string al, .int .i64 cm, .int .i64 tk, .bool sh] 64)).drew
      refine ⟨by rw [show tk + (cm - tk) = cm by omega]; rfl, ?_, by show Chg [g] _ _; (repeat first | with_reducible refine Chg.drew ?_ | with_reducible refine Chg.drewN ?_ _ | with_reducible refine Chg.alloc ?_ _ | with_reducible refine Chg.setCell ?_ (by first | exact .inl (by simp) | exact .inr (by dsimp only; omega)) _); exact Chg.refl _ _⟩
      show IsRef _ _ _ (ys.set _ ⟨al, cm, tk + min m (cm - tk), sh⟩) _
      rw [show min m (cm - tk) = (cm - tk) by omega]
      exact ⟨hI.net, hI.row⟩

set_option maxRecDepth 100000 in
set_option maxHeartbeats 2000000 in
theorem rwrite_good (d : ByteArray) (hd : d.size ≤ 140737488355328) (hz : (ys.getD (2 * i + (1 - s)) way0).all.size ≤ 1000000000) (hc : (ys.getD (2 * i + (1 - s)) way0).came ≤ (ys.getD (2 * i + (1 - s)) way0).all.size) (ht : (ys.getD (2 * i + (1 - s)) way0).taken ≤ (ys.getD (2 * i + (1 - s)) way0).came) :
    Calls Try.prog 23 #[.pointer (some ⟨nb, 0, none⟩), .int .i64 i, .int .i64 s, .string d] w fun e w' => e = .returned (.int .i64 (wrEY (ys.getD (2 * i + (1 - s)) way0) d)) ∧ IsRef w' nb v (ys.set (2 * i + (1 - s)) (wrWY (ys.getD (2 * i + (1 - s)) way0) d)) n ∧ Chg v.ownBlock.toList w w' := by
  have hq : 2 * i + (1 - s) < ys.length := by have := h.len; omega
  have hW := fun W (h : IsRef W nb v ys n) => wrong_any W nb n v ys h i s
  rw [toE_good n i s hi hs] at hW
  rcases (by omega : s = 0 ∨ s = 1) with rfl | rfl
  · obtain ⟨g, cap, rfl, hlt, fz, c0, c1, c2, c3, hcap⟩ := h.wayAt hq (i * 8 + 4) (i * 8 + 5) (i * 8 + 6) (i * 8 + 7) (by omega) (by omega) (by omega) (by omega)
    have n0 := h.net.at 0 rfl
    have nlt := h.net.lt
    have H := Lib.hid h
    have HN := Lib.hid (h.ne g rfl)
    generalize hy : ys.getD (2 * i + (1 - 0)) way0 = y at hz hc ht c0 c1 c2 c3 ⊢
    have HY := Lib.hid hy
    obtain ⟨al, cm, tk, sh⟩ := y
    dsimp only at hz hc ht c0 c1 c2 c3 ⊢
    clear h hy
    have f0 := fz (i * 8 + 4)
    have f1 := fz (i * 8 + 5)
    have f2 := fz (i * 8 + 6)
    have f3 := fz (i * 8 + 7)
    cases sh with
    | true =>
      rw [show wrEY ⟨al, cm, tk, true⟩ d = 20 from rfl, show wrWY ⟨al, cm, tk, true⟩ d = ⟨al, cm, tk, true⟩ from rfl]
      go_enter Try.func23, Try.ntmps23
      go_wp2_with (go_at_call 29; refine (hW _ H.out).mono ?_; rintro e w1 ⟨rfl, rfl⟩)
      go_ret
      exact ⟨rfl, by show IsRef _ _ _ (ys.set _ ⟨al, cm, tk, true⟩) _; rw [← HY.out, setY_same]; have := H.out.new (.cells #[.string al, .int .i64 cm, .int .i64 tk, .bool true] 64); exact ⟨this.net, this.row⟩, by show Chg [g] _ _; (repeat first | with_reducible refine Chg.drew ?_ | with_reducible refine Chg.drewN ?_ _ | with_reducible refine Chg.alloc ?_ _ | with_reducible refine Chg.setCell ?_ (by first | exact .inl (by simp) | exact .inr (by dsimp only; omega)) _); exact Chg.refl _ _⟩
    | false =>
      by_cases hl : 262144 < al.size - tk + d.size
      · rw [show wrEY ⟨al, cm, tk, false⟩ d = 2 by simp [wrEY, hl], show wrWY ⟨al, cm, tk, false⟩ d = ⟨al, cm, tk, false⟩ by simp [wrWY, hl]]
        have hl' : (262144 : Int) < (al.size : Int) - (tk : Int) + (d.size : Int) := by omega
        clear hl
        go_enter Try.func23, Try.ntmps23
        go_wp2_with (go_at_call 29; refine (hW _ H.out).mono ?_; rintro e w1 ⟨rfl, rfl⟩)
        go_ret
        exact ⟨rfl, by show IsRef _ _ _ (ys.set _ ⟨al, cm, tk, false⟩) _; rw [← HY.out, setY_same]; have := H.out.new (.cells #[.string al, .int .i64 cm, .int .i64 tk, .bool false] 64); exact ⟨this.net, this.row⟩, by show Chg [g] _ _; (repeat first | with_reducible refine Chg.drew ?_ | with_reducible refine Chg.drewN ?_ _ | with_reducible refine Chg.alloc ?_ _ | with_reducible refine Chg.setCell ?_ (by first | exact .inl (by simp) | exact .inr (by dsimp only; omega)) _); exact Chg.refl _ _⟩
      · rw [show wrEY ⟨al, cm, tk, false⟩ d = 0 by simp [wrEY, hl], show wrWY ⟨al, cm, tk, false⟩ d = ⟨al ++ d, cm, tk, false⟩ by simp [wrWY, hl]]
        have hl' : ¬ (262144 : Int) < (al.size : Int) - (tk : Int) + (d.size : Int) := by omega
        clear hl
        go_enter Try.func23, Try.ntmps23
        go_upto_region 10 with (go_at_call 29; refine (hW _ H.out).mono ?_; rintro e w1 ⟨rfl, rfl⟩)
        go_region
        go_wp2_with fail
        go_ret
        have hI := ((H.out.put4 hq (al ++ d) cm tk false (i * 8 + 4) (i * 8 + 4 + 1) (i * 8 + 4 + 2) (i * 8 + 4 + 3) (by omega) (by omega) (by omega) (by omega) g cap rfl).new (.cells #[.string (al ++ d), .int .i64 cm, .int .i64 tk, .bool false] 64)).drew
        exact ⟨rfl, ⟨hI.net, hI.row⟩, by show Chg [g] _ _; (repeat first | with_reducible refine Chg.drew ?_ | with_reducible refine Chg.drewN ?_ _ | with_reducible refine Chg.alloc ?_ _ | with_reducible refine Chg.setCell ?_ (by first | exact .inl (by simp) | exact .inr (by dsimp only; omega)) _); exact Chg.refl _ _⟩
  · obtain ⟨g, cap, rfl, hlt, fz, c0, c1, c2, c3, hcap⟩ := h.wayAt hq (i * 8) (i * 8 + 1) (i * 8 + 2) (i * 8 + 3) (by omega) (by omega) (by omega) (by omega)
    have n0 := h.net.at 0 rfl
    have nlt := h.net.lt
    have H := Lib.hid h
    have HN := Lib.hid (h.ne g rfl)
    generalize hy : ys.getD (2 * i + (1 - 1)) way0 = y at hz hc ht c0 c1 c2 c3 ⊢
    have HY := Lib.hid hy
    obtain ⟨al, cm, tk, sh⟩ := y
    dsimp only at hz hc ht c0 c1 c2 c3 ⊢
    clear h hy
    have f0 := fz (i * 8)
    have f1 := fz (i * 8 + 1)
    have f2 := fz (i * 8 + 2)
    have f3 := fz (i * 8 + 3)
    cases sh with
    | true =>
      rw [show wrEY ⟨al, cm, tk, true⟩ d = 20 from rfl, show wrWY ⟨al, cm, tk, true⟩ d = ⟨al, cm, tk, true⟩ from rfl]
      go_enter Try.func23, Try.ntmps23
      go_wp2_with (go_at_call 29; refine (hW _ H.out).mono ?_; rintro e w1 ⟨rfl, rfl⟩)
      go_ret
      exact ⟨rfl, by show IsRef _ _ _ (ys.set _ ⟨al, cm, tk, true⟩) _; rw [← HY.out, setY_same]; have := H.out.new (.cells #[.string al, .int .i64 cm, .int .i64 tk, .bool true] 64); exact ⟨this.net, this.row⟩, by show Chg [g] _ _; (repeat first | with_reducible refine Chg.drew ?_ | with_reducible refine Chg.drewN ?_ _ | with_reducible refine Chg.alloc ?_ _ | with_reducible refine Chg.setCell ?_ (by first | exact .inl (by simp) | exact .inr (by dsimp only; omega)) _); exact Chg.refl _ _⟩
    | false =>
      by_cases hl : 262144 < al.size - tk + d.size
      · rw [show wrEY ⟨al, cm, tk, false⟩ d = 2 by simp [wrEY, hl], show wrWY ⟨al, cm, tk, false⟩ d = ⟨al, cm, tk, false⟩ by simp [wrWY, hl]]
        have hl' : (262144 : Int) < (al.size : Int) - (tk : Int) + (d.size : Int) := by omega
        clear hl
        go_enter Try.func23, Try.ntmps23
        go_wp2_with (go_at_call 29; refine (hW _ H.out).mono ?_; rintro e w1 ⟨rfl, rfl⟩)
        go_ret
        exact ⟨rfl, by show IsRef _ _ _ (ys.set _ ⟨al, cm, tk, false⟩) _; rw [← HY.out, setY_same]; have := H.out.new (.cells #[.string al, .int .i64 cm, .int .i64 tk, .bool false] 64); exact ⟨this.net, this.row⟩, by show Chg [g] _ _; (repeat first | with_reducible refine Chg.drew ?_ | with_reducible refine Chg.drewN ?_ _ | with_reducible refine Chg.alloc ?_ _ | with_reducible refine Chg.setCell ?_ (by first | exact .inl (by simp) | exact .inr (by dsimp only; omega)) _); exact Chg.refl _ _⟩
      · rw [show wrEY ⟨al, cm, tk, false⟩ d = 0 by simp [wrEY, hl], show wrWY ⟨al, cm, tk, false⟩ d = ⟨al ++ d, cm, tk, false⟩ by simp [wrWY, hl]]
        have hl' : ¬ (262144 : Int) < (al.size : Int) - (tk : Int) + (d.size : Int) := by omega
        clear hl
        go_enter Try.func23, Try.ntmps23
        go_upto_region 10 with (go_at_call 29; refine (hW _ H.out).mono ?_; rintro e w1 ⟨rfl, rfl⟩)
        go_region
        go_wp2_with fail
        go_ret
        have hI := ((H.out.put4 hq (al ++ d) cm tk false (i * 8) (i * 8 + 1) (i * 8 + 2) (i * 8 + 3) (by omega) (by omega) (by omega) (by omega) g cap rfl).new (.cells #[.string (al ++ d), .int .i64 cm, .int .i64 tk, .bool false] 64)).drew
        exact ⟨rfl, ⟨hI.net, hI.row⟩, by show Chg [g] _ _; (repeat first | with_reducible refine Chg.drew ?_ | with_reducible refine Chg.drewN ?_ _ | with_reducible refine Chg.alloc ?_ _ | with_reducible refine Chg.setCell ?_ (by first | exact .inl (by simp) | exact .inr (by dsimp only; omega)) _); exact Chg.refl _ _⟩

set_option maxRecDepth 100000 in
set_option maxHeartbeats 2000000 in
theorem rclose_good  (hz : (ys.getD (2 * i + (1 - s)) way0).all.size ≤ 1000000000) (hc : (ys.getD (2 * i + (1 - s)) way0).came ≤ (ys.getD (2 * i + (1 - s)) way0).all.size) (ht : (ys.getD (2 * i + (1 - s)) way0).taken ≤ (ys.getD (2 * i + (1 - s)) way0).came) :
    Calls Try.prog 26 #[.pointer (some ⟨nb, 0, none⟩), .int .i64 i, .int .i64 s] w fun e w' => e = .returned (.int .i64 (clEY (ys.getD (2 * i + (1 - s)) way0))) ∧ IsRef w' nb v (ys.set (2 * i + (1 - s)) { (ys.getD (2 * i + (1 - s)) way0) with shut := true }) n ∧ Chg v.ownBlock.toList w w' := by
  have hq : 2 * i + (1 - s) < ys.length := by have := h.len; omega
  have hW := fun W (h : IsRef W nb v ys n) => wrong_any W nb n v ys h i s
  rw [toE_good n i s hi hs] at hW
  rcases (by omega : s = 0 ∨ s = 1) with rfl | rfl
  · obtain ⟨g, cap, rfl, hlt, fz, c0, c1, c2, c3, hcap⟩ := h.wayAt hq (i * 8 + 4) (i * 8 + 5) (i * 8 + 6) (i * 8 + 7) (by omega) (by omega) (by omega) (by omega)
    have n0 := h.net.at 0 rfl
    have nlt := h.net.lt
    have H := Lib.hid h
    have HN := Lib.hid (h.ne g rfl)
    generalize hy : ys.getD (2 * i + (1 - 0)) way0 = y at hz hc ht c0 c1 c2 c3 ⊢
    have HY := Lib.hid hy
    obtain ⟨al, cm, tk, sh⟩ := y
    dsimp only at hz hc ht c0 c1 c2 c3 ⊢
    clear h hy
    have f0 := fz (i * 8 + 4)
    have f1 := fz (i * 8 + 5)
    have f2 := fz (i * 8 + 6)
    have f3 := fz (i * 8 + 7)
    cases sh with
    | true =>
      go_enter Try.func26, Try.ntmps26
      go_wp2_with (go_at_call 29; refine (hW _ H.out).mono ?_; rintro e w1 ⟨rfl, rfl⟩)
      go_ret
      exact ⟨rfl, by show IsRef _ _ _ (ys.set _ ⟨al, cm, tk, true⟩) _; rw [← HY.out, setY_same]; exact H.out, by show Chg [g] _ _; exact Chg.refl _ _⟩
    | false =>
      go_enter Try.func26, Try.ntmps26
      go_wp2_with (go_at_call 29; refine (hW _ H.out).mono ?_; rintro e w1 ⟨rfl, rfl⟩)
      go_ret
      have hI := (H.out.put hq (i * 8 + 4) (i * 8 + 4 + 1) (i * 8 + 4 + 2) (i * 8 + 4 + 3) (by omega) (by omega) (by omega) (by omega) g cap rfl).2.2.2 true
      rw [HY.out] at hI
      exact ⟨rfl, ⟨hI.net, hI.row⟩, by show Chg [g] _ _; (repeat first | with_reducible refine Chg.drew ?_ | with_reducible refine Chg.drewN ?_ _ | with_reducible refine Chg.alloc ?_ _ | with_reducible refine Chg.setCell ?_ (by first | exact .inl (by simp) | exact .inr (by dsimp only; omega)) _); exact Chg.refl _ _⟩
  · obtain ⟨g, cap, rfl, hlt, fz, c0, c1, c2, c3, hcap⟩ := h.wayAt hq (i * 8) (i * 8 + 1) (i * 8 + 2) (i * 8 + 3) (by omega) (by omega) (by omega) (by omega)
    have n0 := h.net.at 0 rfl
    have nlt := h.net.lt
    have H := Lib.hid h
    have HN := Lib.hid (h.ne g rfl)
    generalize hy : ys.getD (2 * i + (1 - 1)) way0 = y at hz hc ht c0 c1 c2 c3 ⊢
    have HY := Lib.hid hy
    obtain ⟨al, cm, tk, sh⟩ := y
    dsimp only at hz hc ht c0 c1 c2 c3 ⊢
    clear h hy
    have f0 := fz (i * 8)
    have f1 := fz (i * 8 + 1)
    have f2 := fz (i * 8 + 2)
    have f3 := fz (i * 8 + 3)
    cases sh with
    | true =>
      go_enter Try.func26, Try.ntmps26
      go_wp2_with (go_at_call 29; refine (hW _ H.out).mono ?_; rintro e w1 ⟨rfl, rfl⟩)
      go_ret
      exact ⟨rfl, by show IsRef _ _ _ (ys.set _ ⟨al, cm, tk, true⟩) _; rw [← HY.out, setY_same]; exact H.out, by show Chg [g] _ _; exact Chg.refl _ _⟩
    | false =>
      go_enter Try.func26, Try.ntmps26
      go_wp2_with (go_at_call 29; refine (hW _ H.out).mono ?_; rintro e w1 ⟨rfl, rfl⟩)
      go_ret
      have hI := (H.out.put hq (i * 8) (i * 8 + 1) (i * 8 + 2) (i * 8 + 3) (by omega) (by omega) (by omega) (by omega) g cap rfl).2.2.2 true
      rw [HY.out] at hI
      exact ⟨rfl, ⟨hI.net, hI.row⟩, by show Chg [g] _ _; (repeat first | with_reducible refine Chg.drew ?_ | with_reducible refine Chg.drewN ?_ _ | with_reducible refine Chg.alloc ?_ _ | with_reducible refine Chg.setCell ?_ (by first | exact .inl (by simp) | exact .inr (by dsimp only; omega)) _); exact Chg.refl _ _⟩

end
end Go.Proofs.Ytnbjbjpfleiogaa
