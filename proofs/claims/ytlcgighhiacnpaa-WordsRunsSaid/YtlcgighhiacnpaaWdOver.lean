/- over of the laws: all accesses of a task turned to one cell; conditions: as the task reads. -/
import Derived.Test.YtlcgighhiacnpaaWdOpen
namespace Go.Proofs.Ytlcgighhiacnpaa
open Go.RowKit

def insC (x : Ins) : List Value := [.int .i64 x.k, .int .i64 x.a, .int .i64 x.b, .int .i64 x.n]
def insFlat (l : List Ins) : List Value := l.flatMap insC
theorem insFlat_len (l : List Ins) : (insFlat l).length = l.length * 4 := by
  induction l with
  | nil => rfl
  | cons x l ih =>
    have : insFlat (x :: l) = insC x ++ insFlat l := rfl
    rw [this, List.length_append, ih]
    simp [insC]
    omega
theorem insFlat_at (l : List Ins) (t j : Nat) (ht : t < l.length) (hj : j < 4) : (insFlat l)[t * 4 + j]? = (insC (l.getD t ins0))[j]? := by
  induction l generalizing t with
  | nil => simp at ht
  | cons x l ih =>
    have e : insFlat (x :: l) = insC x ++ insFlat l := rfl
    rw [e]
    cases t with
    | zero => rw [List.getElem?_append_left (by simp [insC]; omega), Nat.zero_mul, Nat.zero_add]; rfl
    | succ t =>
      rw [List.getElem?_append_right (by simp [insC]; omega)]
      have : (t + 1) * 4 + j - (insC x).length = t * 4 + j := by simp [insC]; omega
      rw [this, ih t (by simpa using ht)]
      rfl
theorem insFlat_one (l : List Ins) : ∀ u ∈ insFlat l, u.oneCell' = true := by
  intro u hu
  obtain ⟨x, _, hx⟩ := List.mem_flatMap.1 hu
  simp [insC] at hx
  rcases hx with rfl | rfl | rfl | rfl <;> rfl
theorem insFlat_set (l : List Ins) (t : Nat) (ht : t < l.length) (c : Int) : (insFlat l).set (t * 4 + 3) (.int .i64 c) = insFlat (l.set t ⟨(l.getD t ins0).k, (l.getD t ins0).a, (l.getD t ins0).b, c⟩) := by
  induction l generalizing t with
  | nil => simp at ht
  | cons x l ih =>
    have e : insFlat (x :: l) = insC x ++ insFlat l := rfl
    rw [e]
    cases t with
    | zero => rfl
    | succ t =>
      rw [List.set_append, if_neg (by simp [insC]; omega)]
      have : (t + 1) * 4 + 3 - (insC x).length = t * 4 + 3 := by simp [insC]; omega
      rw [this, ih t (by simpa using ht)]
      rfl
theorem RdI.news {w : World} {B : Nat} {ao : Option Addr} {l : List Ins} (h : RdI w B ao l) (o : Obj) : ∀ j u, (insFlat l)[j]? = some u → ∃ ad, ao = some ad ∧ (w.alloc o).cell? (ad.add j) = some u := fun j u hj => by
  have hjl : j < l.length * 4 := by
    have := (List.getElem?_eq_some_iff.1 hj).1
    rwa [insFlat_len] at this
  have hd : j = j / 4 * 4 + j % 4 := by omega
  have hm : j % 4 < 4 := Nat.mod_lt _ (by omega)
  have ht : j / 4 < l.length := by omega
  obtain ⟨b, off, e, hB, c0, c1, c2, c3⟩ := h (j / 4) ht
  refine ⟨_, e, ?_⟩
  rw [Addr.add_lit]
  refine Lib.cell?_alloc_some _ ?_
  rw [hd, insFlat_at l _ _ ht hm] at hj
  have hr : j % 4 = 0 ∨ j % 4 = 1 ∨ j % 4 = 2 ∨ j % 4 = 3 := by omega
  rw [hd]
  generalize j / 4 = q at *
  rcases hr with hr | hr | hr | hr <;> rw [hr] at hj ⊢ <;> (simp [insC] at hj; subst hj)
  · exact c0
  · rw [← Nat.add_assoc]; exact c1
  · rw [← Nat.add_assoc]; exact c2
  · rw [← Nat.add_assoc]; exact c3
theorem own_cap {w : World} {B : Nat} {e : TypeId} {z n k : Nat} {a : Option Addr} {xs : List Value} (h : w.ownsRow B e z (.slice a n k) n xs) : n ≤ k ∧ k ≤ 9223372036854775807 := by
  rcases h.2 with ⟨e1, rfl⟩ | ⟨g, cap, cur, e1, _, _, h3, h4, _, _⟩
  · injection e1 with _ _ e2; subst e2; exact ⟨Nat.le_refl _, by omega⟩
  · injection e1 with _ _ e2; subst e2; unfold maxLen at h4; exact ⟨h3, by omega⟩
theorem own_rdI {w : World} {B n k : Nat} {a : Option Addr} {l : List Ins} (h : w.ownsRow B 50 4 (.slice a n k) n (insFlat l)) : RdI w w.heap.size a l := fun t ht => by
  obtain ⟨b, e, _, hb, h0⟩ := own_rd h (t * 4 + 0) _ ((insFlat_at l t 0 ht (by omega)).trans rfl)
  obtain ⟨b1, e1, _, _, h1⟩ := own_rd h (t * 4 + 1) _ ((insFlat_at l t 1 ht (by omega)).trans rfl)
  obtain ⟨b2, e2, _, _, h2⟩ := own_rd h (t * 4 + 2) _ ((insFlat_at l t 2 ht (by omega)).trans rfl)
  obtain ⟨b3, e3, _, _, h3⟩ := own_rd h (t * 4 + 3) _ ((insFlat_at l t 3 ht (by omega)).trans rfl)
  rw [e] at e1 e2 e3
  injection e1 with e1; injection e1 with e1 _ _; subst e1
  injection e2 with e2; injection e2 with e2 _ _; subst e2
  injection e3 with e3; injection e3 with e3 _ _; subst e3
  exact ⟨b, 0, e, hb, by rw [Nat.zero_add]; exact h0, by rw [Nat.zero_add]; exact h1, by rw [Nat.zero_add]; exact h2, by rw [Nat.zero_add]; exact h3⟩

theorem Try.info50 : (Try.prog.info? 50).map (fun i => (i.zero, i.size, i.bytes)) = some (some (.agg #[.int .i64 0, .int .i64 0, .int .i64 0, .int .i64 0]), 4, 32) := by kernel_rfl

/-- So far turned. -/
def ovTo (c : Int) (l : List Ins) (t : Nat) : List Ins := ov c (l.take t) ++ l.drop t
theorem ovTo_len (c : Int) (l : List Ins) (t : Nat) : (ovTo c l t).length = l.length := by
  unfold ovTo; rw [List.length_append, ov_len, List.length_take, List.length_drop]; omega
theorem ovTo_zero (c : Int) (l : List Ins) : ovTo c l 0 = l := by simp [ovTo, ov]
theorem ovTo_end (c : Int) (l : List Ins) : ovTo c l l.length = ov c l := by simp [ovTo]
theorem ovTo_at {c : Int} {l : List Ins} {t : Nat} (h : t < l.length) : (ovTo c l t).getD t ins0 = l.getD t ins0 := by
  have hl : (ov c (l.take t)).length = t := by rw [ov_len, List.length_take]; omega
  unfold ovTo
  simp only [List.getD]
  rw [List.getElem?_append_right (by omega), hl]
  simp
theorem ovTo_succ {c : Int} {l : List Ins} {t : Nat} (h : t < l.length) : ovTo c l (t + 1) = (ovTo c l t).set t (ovI c (l.getD t ins0)) := by
  have hl : (ov c (l.take t)).length = t := by rw [ov_len, List.length_take]; omega
  unfold ovTo
  rw [List.set_append, if_neg (by omega), hl, Nat.sub_self, List.drop_eq_getElem_cons h, List.set_cons_zero, List.take_succ_eq_append_getElem h]
  have e : ov c (l.take t ++ [l[t]]) = ov c (l.take t) ++ [ovI c l[t]] := by simp only [ov, List.map_append, List.map_cons, List.map_nil]
  have hg : l.getD t ins0 = l[t] := by simp [List.getD, h]
  rw [e, hg, List.append_assoc]
  rfl
theorem ovI_yes {c : Int} {x : Ins} (h : 4 ≤ x.k ∧ x.k ≤ 6) : ovI c x = ⟨x.k, x.a, x.b, c⟩ := by unfold ovI; rw [if_pos h]
theorem ovI_no {c : Int} {x : Ins} (h : ¬ (4 ≤ x.k ∧ x.k ≤ 6)) : ovI c x = x := by unfold ovI; rw [if_neg h]
theorem set_same {l : List Ins} {t : Nat} (h : t < l.length) : l.set t (l.getD t ins0) = l := by
  simp [List.getD, h]

def OverPost (w : World) (l : List Ins) (c : Int) (e : Ending) (w' : World) : Prop :=
  ∃ (a : Option Addr) (k : Nat), e = .returned (.slice a l.length k) ∧ w'.ownsRow w.heap.size 50 4 (.slice a l.length k) l.length (insFlat (ov c l)) ∧ Below w.heap.size w w'
set_option maxRecDepth 100000 in
theorem over_any (w : World) (ao : Option Addr) (cap : Nat) (l : List Ins) (hl : l.length ≤ 4096) (hri : RdI w w.heap.size ao l) (c : Int) :
    Calls Try.prog 20 #[.slice ao l.length cap, .int .i64 c] w (OverPost w l c) := by
  obtain ⟨i0, hi, hz0, hz1, hz2⟩ := info_parts Try.info50
  have HI := Lib.hid hi
  have HR := Lib.hid hri
  clear hi hri
  go_enter Try.func20, Try.ntmps20
  go_wp2_with (at_builtin; refine wpList_append_to rfl (.tmp 7) (.tmp 8) 43 rfl w.heap.size 50 i0 (.agg #[.int .i64 0, .int .i64 0, .int .i64 0, .int .i64 0]) 4 32 Try.underlying43 HI.out hz0 hz1 hz2 rfl (by decide) _ 0 [] rfl (World.ownsRow_made w #[] 0 (Nat.le_refl _) (Nat.zero_le _) rfl) ao l.length cap (insFlat l) rfl (insFlat_len l) (HR.out.news _) (insFlat_one l) l.length (by omega) (insFlat l) rfl (by unfold maxLen; omega) (by omega) (by simp) ?_; intro a6 k6 w5 hown hgr)
  have hB : Below w.heap.size w w5 := below_grown ((Below.refl _ w).alloc (Nat.le_refl _) _) hgr (by simp) (below_own (World.ownsRow_made (size := 4) (e := 50) w #[] 0 (Nat.le_refl _) (Nat.zero_le _) rfl))
  have HB := Lib.hid hB
  have HO := Lib.hid hown
  clear hB hown hgr HR
  go_loopg [12] l.length (fun gn i wr => ∃ t : Nat, t ≤ l.length ∧ i = .int .i64 t ∧ gn = l.length - t ∧ wr.ownsRow w.heap.size 50 4 (.slice a6 l.length k6) l.length (insFlat (ovTo c l t)) ∧ Below w.heap.size w wr)
  case atStart => exact ⟨0, Nat.zero_le _, rfl, rfl, by rw [ovTo_zero]; exact HO.out, HB.out⟩
  case round =>
    clear HO HB
    obtain ⟨t, ht, rfl, rfl, hown, hb⟩ := hrel
    have hbz := hb.size
    have HO := Lib.hid hown
    have HB := Lib.hid hb
    clear hown hb
    by_cases htl : t < l.length
    · have htl2 : t < (ovTo c l t).length := by rw [ovTo_len]; exact htl
      obtain ⟨b, e1, hwb, hb1, c0⟩ := own_rd HO.out (t * 4 + 0) _ ((insFlat_at (ovTo c l t) t 0 htl2 (by omega)).trans rfl)
      subst e1
      have c0 : wr.cell? ⟨b, t * 4, none⟩ = some (.int .i64 (l.getD t ins0).k) := by rw [← ovTo_at htl]; exact c0
      obtain ⟨_, e3, _, _, c3⟩ := own_rd HO.out (t * 4 + 3) _ ((insFlat_at (ovTo c l t) t 3 htl2 (by omega)).trans rfl)
      injection e3 with e3
      injection e3 with e3 _ _
      subst e3
      have f3 := HO.out.frozenAt (t * 4 + 3)
      have hst := (HO.out.stored (t * 4 + 3) (.int .i64 c)).1
      rw [insFlat_set _ _ htl2, ovTo_at htl] at hst
      have hsu := ovTo_succ (c := c) htl
      have hss := set_same htl2
      rw [ovTo_at htl] at hss
      have HST := Lib.hid hst
      have HSU := Lib.hid hsu
      have HSS := Lib.hid hss
      clear hst hsu hss
      have hk : (l.getD t ins0).k = (l.getD t ins0).k := rfl
      clear hk
      by_cases h46 : 4 ≤ (l.getD t ins0).k ∧ (l.getD t ins0).k ≤ 6
      · have hy := ovI_yes (c := c) h46
        have HY := Lib.hid hy
        obtain ⟨h4, h6⟩ := h46
        clear hy
        generalize l.getD t ins0 = x at *
        generalize hxk : x.k = xk at c0 h4 h6
        clear hxk
        go_wp2_with fail
        go_roundg (l.length - (t + 1))
        case rel => exact ⟨t + 1, by omega, by go_num, rfl, by rw [HSU.out, HY.out]; exact HST.out, HB.out.setCell (by exact hwb) _⟩
        case measure => omega
      · have hy := ovI_no (c := c) h46
        have HY := Lib.hid hy
        have hcase : (l.getD t ins0).k < 4 ∨ (4 ≤ (l.getD t ins0).k ∧ 6 < (l.getD t ins0).k) := by omega
        clear hy h46
        generalize l.getD t ins0 = x at *
        generalize hxk : x.k = xk at c0 hcase
        clear hxk
        rcases hcase with h4 | ⟨h4, h6⟩
        · go_wp2_with fail
          go_roundg (l.length - (t + 1))
          case rel => exact ⟨t + 1, by omega, by go_num, rfl, by rw [HSU.out, HY.out, HSS.out]; exact HO.out, HB.out⟩
          case measure => omega
        · go_wp2_with fail
          go_roundg (l.length - (t + 1))
          case rel => exact ⟨t + 1, by omega, by go_num, rfl, by rw [HSU.out, HY.out, HSS.out]; exact HO.out, HB.out⟩
          case measure => omega
    · obtain rfl : t = l.length := by omega
      have hfin := HO.out
      rw [ovTo_end] at hfin
      have HF := Lib.hid hfin
      clear hfin HO
      go_wp2_with fail
      go_ret
      exact ⟨a6, k6, rfl, HF.out, HB.out⟩

end Go.Proofs.Ytlcgighhiacnpaa
