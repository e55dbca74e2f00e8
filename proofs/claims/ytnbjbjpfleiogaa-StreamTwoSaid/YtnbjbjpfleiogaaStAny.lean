/- Any call of both nets: they tell the same, and are alike behind it; conditions: they are alike, their sizes bounded. -/
import Derived.Test.YtnbjbjpfleiogaaStActs
namespace Go.Proofs.Ytnbjbjpfleiogaa
open Go.RowKit

structure SimL (ps : List Pipe) (ys : List Way) : Prop where
  len : ps.length = ys.length
  sim : ∀ q, Sim (ps.getD q pipe0) (ys.getD q way0)
def AllLe (ys : List Way) (K : Nat) : Prop := ∀ q, (ys.getD q way0).all.size ≤ K

theorem getDY_set {α : Type} {l : List α} {i j : Nat} {v d : α} (hi : i < l.length) : (l.set i v).getD j d = if i = j then v else l.getD j d := getD_set hi
theorem SimL.set {ps : List Pipe} {ys : List Way} {q : Nat} {p : Pipe} {y : Way} (h : SimL ps ys) (hq : q < ps.length) (hs : Sim p y) : SimL (ps.set q p) (ys.set q y) :=
  ⟨by simpa using h.len, fun j => by
    rw [getD_set hq, getD_set (by rw [← h.len]; exact hq)]
    split
    · exact hs
    · exact h.sim j⟩
theorem AllLe.set {ys : List Way} {K : Nat} {q : Nat} {y : Way} (h : AllLe ys K) (hq : q < ys.length) (hs : y.all.size ≤ K) : AllLe (ys.set q y) K := fun j => by
  rw [getD_set hq]
  split
  · exact hs
  · exact h j
theorem AllLe.mono {ys : List Way} {K K' : Nat} (h : AllLe ys K) (hK : K ≤ K') : AllLe ys K' := fun j => Nat.le_trans (h j) hK
theorem getD_app2 {α : Type} {l : List α} {a d : α} (j : Nat) (had : a = d) : (l ++ [a, a]).getD j d = l.getD j d := by
  subst had
  by_cases hj : j < l.length
  · simp [List.getD, List.getElem?_append_left hj]
  · simp only [List.getD, List.getElem?_append_right (Nat.le_of_not_lt hj), List.getElem?_eq_none (Nat.le_of_not_lt hj)]
    rcases j - l.length with _ | _ | k <;> rfl
theorem SimL.dial {ps : List Pipe} {ys : List Way} (h : SimL ps ys) : SimL (ps ++ [pipe0, pipe0]) (ys ++ [way0, way0]) :=
  ⟨by simp [h.len], fun j => by rw [getD_app2 j rfl, getD_app2 j rfl]; exact h.sim j⟩
theorem AllLe.dial {ys : List Way} {K : Nat} (h : AllLe ys K) : AllLe (ys ++ [way0, way0]) K := fun j => by rw [getD_app2 j rfl]; exact h j

section
variable {p : Pipe} {y : Way}
theorem Sim.wrE (h : Sim p y) (d : ByteArray) : wrE p d = wrEY y d := by
  have h1 := h.wz
  have h2 := h.hz
  have h3 := h.ca
  have h4 := h.tc
  unfold Go.Proofs.Ytnbjbjpfleiogaa.wrE wrEY
  rw [h.shut, h1, h2, show y.all.size - y.came + (y.came - y.taken) = y.all.size - y.taken by omega]
theorem Sim.wrP (h : Sim p y) (d : ByteArray) : Sim (wrP p d) (wrWY y d) := by
  have h1 := h.wz
  have h2 := h.hz
  have h3 := h.ca
  have h4 := h.tc
  unfold Go.Proofs.Ytnbjbjpfleiogaa.wrP wrWY
  rw [h.shut, h1, h2, show y.all.size - y.came + (y.came - y.taken) = y.all.size - y.taken by omega]
  split
  · exact h
  · split
    · exact h
    · have := h.wr d
      rw [h.shut] at this
      exact this
theorem wrWY_all (y : Way) (d : ByteArray) (K : Nat) (h : y.all.size ≤ K) : (wrWY y d).all.size ≤ K + 262144 := by
  unfold wrWY
  split
  · omega
  · split
    · omega
    · show (y.all ++ d).size ≤ _
      rw [ByteArray.size_append]; omega
theorem Sim.clE (h : Sim p y) : clE p = clEY y := by unfold Go.Proofs.Ytnbjbjpfleiogaa.clE clEY; rw [h.shut]
end

def StepAll (nb rb : Nat) (v0 u0 : Value) (K : Nat) (w0 : World) (e : Ending) (w' : World) : Prop :=
  e = .returned (.bool true) ∧ ∃ n' ps' ys' v' u', IsNet w' nb v' ps' n' ∧ IsRef w' rb u' ys' n' ∧ NetOk ps' n' ∧ SimL ps' ys' ∧ AllLe ys' (K + 262144) ∧ Chg (nb :: rb :: (v0.ownBlock.toList ++ u0.ownBlock.toList)) w0 w' ∧ Fresh w0 v0 v' ∧ Fresh w0 u0 u'
theorem StepPost.all {nb rb : Nat} {v0 u0 : Value} {K n' : Nat} {ps' : List Pipe} {ys' : List Way} {w0 : World} (h1 : NetOk ps' n') (h2 : SimL ps' ys') (h3 : AllLe ys' (K + 262144)) {e : Ending} {w' : World} (h : StepPost nb rb v0 u0 ps' ys' n' w0 e w') : StepAll nb rb v0 u0 K w0 e w' := by
  obtain ⟨he, v', u', i, r, c, fv, fu⟩ := h
  exact ⟨he, n', ps', ys', v', u', i, r, h1, h2, h3, c, fv, fu⟩

section
variable {nb n q : Nat} {v : Value} {ps : List Pipe} {ys : List Way} {r : Value} {W : World}
theorem chg_more {l : List Nat} {nb : Nat} {w w' : World} (h : Chg l w w') : Chg (nb :: l) w w' := h.more (fun k hk => .inl (List.mem_cons_of_mem _ hk))
theorem NetPost.same (i : IsNet W nb v ps n) : NetPost nb v ps n r W (.returned r) W := ⟨rfl, v, i, Chg.refl _ _, Fresh.refl _ _⟩
theorem RefPost.same (i : IsRef W nb v ys n) : RefPost nb v ys n r W (.returned r) W := ⟨rfl, v, i, Chg.refl _ _, Fresh.refl _ _⟩
theorem OpE.post {p' : Pipe} {e : Ending} {w' : World} (h : OpE nb v ps n q p' r W e w') : NetPost nb v (ps.set q p') n r W e w' := ⟨h.1, v, h.2.1, chg_more h.2.2, Fresh.refl _ _⟩
end

section
variable (w : World) (nb rb : Nat) (v u : Value) (ps : List Pipe) (ys : List Way) (n K : Nat) (hN0 : IsNet w nb v ps n) (hR0 : IsRef w rb u ys n) (ok : NetOk ps n) (hS : SimL ps ys) (hK : AllLe ys K) (hK2 : K ≤ 100000000)
  (kd cn sd nn : Int) (d : ByteArray) (hd : d.size ≤ 140737488355328) (hnn : -9223372036854775808 ≤ nn ∧ nn ≤ 9223372036854775807)
include hN0 hR0 ok hS hK hK2 hd hnn

theorem step_any : Calls Try.prog 19 #[.pointer (some ⟨nb, 0, none⟩), .pointer (some ⟨rb, 0, none⟩), .agg #[.int .i64 kd, .int .i64 cn, .int .i64 sd, .int .i64 nn, .string d]] w (StepAll nb rb v u K w) := by
  have hn64 := ok.n
  have hk7 : kd % 7 = 0 ∨ kd % 7 = 1 ∨ kd % 7 = 2 ∨ kd % 7 = 3 ∨ kd % 7 = 4 ∨ kd % 7 = 5 ∨ kd % 7 = 6 := by omega
  have hKm : AllLe ys (K + 262144) := hK.mono (by omega)
  by_cases h0 : kd % 7 = 0
  · by_cases hf : n < 64
    · refine (step_0 w nb rb v u ps (ps ++ [pipe0, pipe0]) ys (ys ++ [way0, way0]) n (n + 1) hN0 hR0 kd cn sd nn d h0 n 0 (fun W h => ?_) (fun W h => ?_)).mono fun e w' h => h.all (netOk_dial ok hf) hS.dial hKm.dial
      · refine (dial_room W nb n v ps h hf).mono ?_
        rintro e w' ⟨he, v', i, c, m⟩
        exact ⟨he, v', i, c, m⟩
      · refine (rdial_room W rb n u ys h hf).mono ?_
        rintro e w' ⟨he, v', i, c, m⟩
        exact ⟨he, v', i, c, m⟩
    · refine (step_0 w nb rb v u ps ps ys ys n n hN0 hR0 kd cn sd nn d h0 0 2 (fun W h => ?_) (fun W h => ?_)).mono fun e w' h => h.all ok hS hKm
      · refine (dial_full W nb n v ps h (by omega) (by omega)).mono ?_
        rintro e w' ⟨rfl, rfl⟩
        exact NetPost.same h
      · refine (rdial_full W rb n u ys h (by omega) (by omega)).mono ?_
        rintro e w' ⟨rfl, rfl⟩
        exact RefPost.same h
  by_cases hb : toE n cn sd = 0
  · have hci : 0 ≤ cn ∧ cn < n ∧ (sd = 0 ∨ sd = 1) := by
      unfold toE at hb
      split at hb
      · omega
      · split at hb <;> omega
    obtain ⟨i, rfl⟩ := Int.eq_ofNat_of_zero_le hci.1
    obtain ⟨s, rfl⟩ := Int.eq_ofNat_of_zero_le (show 0 ≤ sd by omega)
    have hi : i < n := by omega
    have hs : s < 2 := by omega
    have hl := hN0.len
    have hq : 2 * i + s < ps.length := by omega
    have hq' : 2 * i + (1 - s) < ps.length := by omega
    have hy : 2 * i + s < ys.length := by rw [← hS.len]; exact hq
    have hy' : 2 * i + (1 - s) < ys.length := by rw [← hS.len]; exact hq'
    have S := hS.sim (2 * i + s)
    have S' := hS.sim (2 * i + (1 - s))
    have Z : ∀ q, (ys.getD q way0).all.size ≤ 1000000000 := fun q => Nat.le_trans (hK q) (by omega)
    rcases hk7 with h | h | h | h | h | h | h
    · exact absurd h h0
    · refine (step_1 w nb rb v u ps _ ys _ n n hN0 hR0 kd i s nn d h (wrE (ps.getD (2 * i + (1 - s)) pipe0) d) (fun W h => (write_good W nb n v ps h ok i s hi hs d hd).mono fun e w' h => h.post) (fun W h => ?_)).mono fun e w' h => h.all
        (ok.set hq' (fits_wr (ok.fit _) d)) (hS.set hq' (S'.wrP d)) (hKm.set hy' (wrWY_all _ d K (hK _)))
      refine (rwrite_good W rb n u ys h i s hi hs d hd (Z _) S'.ca S'.tc).mono ?_
      rintro e w' ⟨he, ir, c⟩
      exact ⟨by rw [he, S'.wrE], u, ir, chg_more c, Fresh.refl _ _⟩
    · by_cases hm : nn < 0
      · refine (step_2 w nb rb v u ps ps ys ys n n hN0 hR0 kd i s nn d h 0 1 (fun W h => ?_) (fun W h => ?_)).mono fun e w' h => h.all ok hS hKm
        · refine (arrive_neg W nb n v i s hi hs ps h nn hm).mono ?_
          rintro e w' ⟨rfl, rfl⟩
          exact NetPost.same h
        · refine (rarrive_neg W rb n u i s hi hs ys h nn hm).mono ?_
          rintro e w' ⟨rfl, rfl⟩
          exact RefPost.same h
      · obtain ⟨m, rfl⟩ := Int.eq_ofNat_of_zero_le (show 0 ≤ nn by omega)
        refine (step_2 w nb rb v u ps _ ys _ n n hN0 hR0 kd i s m d h (arN (ps.getD (2 * i + s) pipe0) m) 0 (fun W h => (arrive_good W nb n v ps h ok i s hi hs m (by omega)).mono fun e w' h => h.post) (fun W h => ?_)).mono fun e w' h => h.all
          (ok.set hq (fits_ar (ok.fit _) m)) (hS.set hq (S.ar m).1) (hKm.set hy (Nat.le_trans (hK (2 * i + s)) (by omega)))
        refine (rarrive_good W rb n u ys h i s hi hs m (by omega) (Z _) S.ca S.tc).mono ?_
        rintro e w' ⟨he, ir, c⟩
        exact ⟨by rw [he, (S.ar m).2], u, ir, chg_more c, Fresh.refl _ _⟩
    · by_cases hm : nn < 0
      · refine (step_3 w nb rb v u ps ps ys ys n n hN0 hR0 kd i s nn d h ⟨#[]⟩ 1 (fun W h => ?_) (fun W h => ?_)).mono fun e w' h => h.all ok hS hKm
        · refine (read_neg W nb n v i s hi hs ps h nn hm).mono ?_
          rintro e w' ⟨rfl, rfl⟩
          exact NetPost.same h
        · refine (rread_neg W rb n u i s hi hs ys h nn hm).mono ?_
          rintro e w' ⟨rfl, rfl⟩
          exact RefPost.same h
      · obtain ⟨m, rfl⟩ := Int.eq_ofNat_of_zero_le (show 0 ≤ nn by omega)
        refine (step_3 w nb rb v u ps _ ys _ n n hN0 hR0 kd i s m d h (rdS (ps.getD (2 * i + s) pipe0) m) 0 (fun W h => (read_good W nb n v ps h ok i s hi hs m (by omega)).mono fun e w' h => h.post) (fun W h => ?_)).mono fun e w' h => h.all
          (ok.set hq (fits_rd (ok.fit _) m)) (hS.set hq (S.rd m).1) (hKm.set hy (Nat.le_trans (hK (2 * i + s)) (by omega)))
        refine (rread_good W rb n u ys h i s hi hs m (by omega) (Z _) S.ca S.tc).mono ?_
        rintro e w' ⟨he, ir, c⟩
        exact ⟨by rw [he, (S.rd m).2.2], u, ir, chg_more c, Fresh.refl _ _⟩
    · refine (step_4 w nb rb v u ps _ ys _ n n hN0 hR0 kd i s nn d h (clE (ps.getD (2 * i + (1 - s)) pipe0)) (fun W h => (close_good W nb n v ps h ok i s hi hs).mono fun e w' h => h.post) (fun W h => ?_)).mono fun e w' h => h.all
        (ok.set hq' (fits_cl (ok.fit _))) (hS.set hq' S'.cl) (hKm.set hy' (Nat.le_trans (hK (2 * i + (1 - s))) (by omega)))
      refine (rclose_good W rb n u ys h i s hi hs (Z _) S'.ca S'.tc).mono ?_
      rintro e w' ⟨he, ir, c⟩
      exact ⟨by rw [he, S'.clE], u, ir, chg_more c, Fresh.refl _ _⟩
    · refine (step_5 w nb rb v u ps ps ys ys n n hN0 hR0 kd i s nn d h (enB (ps.getD (2 * i + s) pipe0)) 0 (fun W h => ?_) (fun W h => ?_)).mono fun e w' h => h.all ok hS hKm
      · refine (ended_good W nb n v ps h ok i s hi hs).mono ?_
        rintro e w' ⟨rfl, rfl⟩
        exact NetPost.same h
      · refine (rended_good W rb n u ys h i s hi hs (Z _) S.ca S.tc).mono ?_
        rintro e w' ⟨rfl, b⟩
        exact ⟨by rw [S.en], u, h.chg (Chg.of_below b []) (by simp) (by simp), Chg.of_below b _, Fresh.refl _ _⟩
    · refine (step_6 w nb rb v u ps ps ys ys n n hN0 hR0 kd i s nn d h (ps.getD (2 * i + s) pipe0).way.size (ps.getD (2 * i + s) pipe0).here.size 0 (fun W h => ?_) (fun W h => ?_)).mono fun e w' h => h.all ok hS hKm
      · refine (pending_good W nb n v ps h ok i s hi hs).mono ?_
        rintro e w' ⟨rfl, b⟩
        exact ⟨rfl, v, h.chg (Chg.of_below b []) (by simp) (by simp), Chg.of_below b _, Fresh.refl _ _⟩
      · refine (rpending_good W rb n u ys h i s hi hs (Z _) S.ca S.tc).mono ?_
        rintro e w' ⟨rfl, b⟩
        have e1 := S.wz
        have e2 := S.hz
        have e3 := S.ca
        have e4 := S.tc
        exact ⟨by rw [e1, e2, Int.ofNat_sub e3, Int.ofNat_sub e4], u, h.chg (Chg.of_below b []) (by simp) (by simp), Chg.of_below b _, Fresh.refl _ _⟩
  · rcases hk7 with h | h | h | h | h | h | h
    · exact absurd h h0
    · refine (step_1 w nb rb v u ps ps ys ys n n hN0 hR0 kd cn sd nn d h (toE n cn sd) (fun W h => ?_) (fun W h => ?_)).mono fun e w' h => h.all ok hS hKm
      · refine (write_bad W nb n v cn sd hb ps h d).mono ?_
        rintro e w' ⟨rfl, rfl⟩
        exact NetPost.same h
      · refine (rwrite_bad W rb n u cn sd hb ys h d).mono ?_
        rintro e w' ⟨rfl, rfl⟩
        exact RefPost.same h
    · refine (step_2 w nb rb v u ps ps ys ys n n hN0 hR0 kd cn sd nn d h 0 (toE n cn sd) (fun W h => ?_) (fun W h => ?_)).mono fun e w' h => h.all ok hS hKm
      · refine (arrive_bad W nb n v cn sd hb ps h nn).mono ?_
        rintro e w' ⟨rfl, rfl⟩
        exact NetPost.same h
      · refine (rarrive_bad W rb n u cn sd hb ys h nn).mono ?_
        rintro e w' ⟨rfl, rfl⟩
        exact RefPost.same h
    · refine (step_3 w nb rb v u ps ps ys ys n n hN0 hR0 kd cn sd nn d h ⟨#[]⟩ (toE n cn sd) (fun W h => ?_) (fun W h => ?_)).mono fun e w' h => h.all ok hS hKm
      · refine (read_bad W nb n v cn sd hb ps h nn).mono ?_
        rintro e w' ⟨rfl, rfl⟩
        exact NetPost.same h
      · refine (rread_bad W rb n u cn sd hb ys h nn).mono ?_
        rintro e w' ⟨rfl, rfl⟩
        exact RefPost.same h
    · refine (step_4 w nb rb v u ps ps ys ys n n hN0 hR0 kd cn sd nn d h (toE n cn sd) (fun W h => ?_) (fun W h => ?_)).mono fun e w' h => h.all ok hS hKm
      · refine (close_bad W nb n v cn sd hb ps h).mono ?_
        rintro e w' ⟨rfl, rfl⟩
        exact NetPost.same h
      · refine (rclose_bad W rb n u cn sd hb ys h).mono ?_
        rintro e w' ⟨rfl, rfl⟩
        exact RefPost.same h
    · refine (step_5 w nb rb v u ps ps ys ys n n hN0 hR0 kd cn sd nn d h false (toE n cn sd) (fun W h => ?_) (fun W h => ?_)).mono fun e w' h => h.all ok hS hKm
      · refine (ended_bad W nb n v cn sd hb ps h).mono ?_
        rintro e w' ⟨rfl, rfl⟩
        exact NetPost.same h
      · refine (rended_bad W rb n u cn sd hb ys h).mono ?_
        rintro e w' ⟨rfl, rfl⟩
        exact RefPost.same h
    · refine (step_6 w nb rb v u ps ps ys ys n n hN0 hR0 kd cn sd nn d h 0 0 (toE n cn sd) (fun W h => ?_) (fun W h => ?_)).mono fun e w' h => h.all ok hS hKm
      · refine (pending_bad W nb n v cn sd hb ps h).mono ?_
        rintro e w' ⟨rfl, rfl⟩
        exact NetPost.same h
      · refine (rpending_bad W rb n u cn sd hb ys h).mono ?_
        rintro e w' ⟨rfl, rfl⟩
        exact RefPost.same h
end

end Go.Proofs.Ytnbjbjpfleiogaa
