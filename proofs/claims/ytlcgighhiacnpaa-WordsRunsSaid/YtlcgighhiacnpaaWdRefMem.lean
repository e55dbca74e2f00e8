/- The document's machine as it lies; stopped by its contract; conditions: as the tasks read. -/
import Derived.Test.YtlcgighhiacnpaaWdRefPure
import Derived.Test.YtlcgighhiacnpaaWdOpen
import Derived.BigRegion
import Derived.BigQuiet
import Derived.Deep.QuietTactic
import Derived.StillTailTactics
namespace Go.Proofs.Ytlcgighhiacnpaa
open Go.RowKit

def Rows8 (R : List (List Nat)) : Prop := ∀ l ∈ R, l.length = 8 ∧ ∀ k, l.getD k 0 < 18446744073709551616
def regC (R : List (List Nat)) : List Value := R.flatMap uvl
theorem regC_len {R : List (List Nat)} (h : Rows8 R) : (regC R).length = R.length * 8 := by
  induction R with
  | nil => rfl
  | cons x R ih =>
    have e : regC (x :: R) = uvl x ++ regC R := rfl
    rw [e, List.length_append, uvl_len, (h x (by simp)).1, ih (fun l hl => h l (by simp [hl]))]
    simp; omega
theorem regC_at {R : List (List Nat)} (h : Rows8 R) {t A : Nat} (ht : t < R.length) (hA : A < 8) : (regC R)[t * 8 + A]? = some (.int .u64 ((R.getD t []).getD A 0 : Nat)) := by
  induction R generalizing t with
  | nil => simp at ht
  | cons x R ih =>
    have e : regC (x :: R) = uvl x ++ regC R := rfl
    have hx := (h x (by simp)).1
    rw [e]
    cases t with
    | zero =>
      have hl : A < x.length := by omega
      rw [List.getElem?_append_left (by rw [uvl_len]; omega), Nat.zero_mul, Nat.zero_add]
      simp [uvl, List.getD, hl]
    | succ t =>
      rw [List.getElem?_append_right (by rw [uvl_len, hx]; omega), uvl_len, hx]
      have : (t + 1) * 8 + A - 8 = t * 8 + A := by omega
      rw [this, ih (fun l hl => h l (by simp [hl])) (by simpa using ht)]
      rfl
theorem regC_set {R : List (List Nat)} (h : Rows8 R) {t A : Nat} (ht : t < R.length) (hA : A < 8) (v : Nat) : (regC R).set (t * 8 + A) (.int .u64 (v : Nat)) = regC (R.set t ((R.getD t []).set A v)) := by
  induction R generalizing t with
  | nil => simp at ht
  | cons x R ih =>
    have e : regC (x :: R) = uvl x ++ regC R := rfl
    have hx := (h x (by simp)).1
    rw [e]
    cases t with
    | zero =>
      rw [Nat.zero_mul, Nat.zero_add, List.set_append, if_pos (by rw [uvl_len]; omega), uvl_set]
      rfl
    | succ t =>
      rw [List.set_append, if_neg (by rw [uvl_len, hx]; omega), uvl_len, hx]
      have : (t + 1) * 8 + A - 8 = t * 8 + A := by omega
      rw [this, ih (fun l hl => h l (by simp [hl])) (by simpa using ht)]
      rfl
theorem rows8_set {R : List (List Nat)} (h : Rows8 R) {t A v : Nat} (ht : t < R.length) (hA : A < 8) (hv : v < 18446744073709551616) : Rows8 (R.set t ((R.getD t []).set A v)) := fun l hl => by
  rcases List.mem_or_eq_of_mem_set hl with hl | rfl
  · exact h l hl
  · have hm : R.getD t [] ∈ R := by
      have : R.getD t [] = R[t] := by simp [List.getD, ht]
      rw [this]; exact List.getElem_mem ht
    obtain ⟨h1, h2⟩ := h _ hm
    refine ⟨by simpa using h1, fun k => ?_⟩
    rw [getD_setN (by omega)]
    split
    · exact hv
    · exact h2 k

/-- The machine as it lies: all its blocks from B on. -/
structure MAt (B mb pb rb db : Nat) (ta : Option Addr) (tn tc : Nat) (cv : Value) (w : World) (s : RS) : Prop where
  m : Blk w mb 61 #[.slice ta tn tc, .slice (some ⟨pb, 0, none⟩) tn tn, cv, .slice (some ⟨rb, 0, none⟩) tn tn, .slice (some ⟨db, 0, none⟩) tn tn, .int .i64 s.steps]
  p : Blk w pb 3 ((s.places.map fun x : Nat => Value.int .i64 x).toArray)
  r : Blk w rb 47 (regC s.regs).toArray
  d : Blk w db 4 ((s.done.map .bool).toArray)
  own : OwnU B w cv s.C
  pl : s.places.length = tn
  rl : s.regs.length = tn
  dl : s.done.length = tn
  rows : Rows8 s.regs
  hm : B ≤ mb
  hp : B ≤ pb
  hr : B ≤ rb
  hd : B ≤ db
section
variable {B mb pb rb db : Nat} {ta : Option Addr} {tn tc : Nat} {cv : Value} {w w' : World} {s : RS}
theorem MAt.at_p (h : MAt B mb pb rb db ta tn tc cv w s) {t : Nat} (ht : t < tn) : w.cell? ⟨pb, t, none⟩ = some (.int .i64 (s.pl t : Nat)) := by
  have hl : t < s.places.length := by rw [h.pl]; exact ht
  exact h.p.at t (by simp [RS.pl, List.getD, hl])
theorem MAt.at_d (h : MAt B mb pb rb db ta tn tc cv w s) {t : Nat} (ht : t < tn) : w.cell? ⟨db, t, none⟩ = some (.bool (s.dn t)) := by
  have hl : t < s.done.length := by rw [h.dl]; exact ht
  exact h.d.at t (by simp [RS.dn, List.getD, hl])
theorem MAt.at_r (h : MAt B mb pb rb db ta tn tc cv w s) {t A : Nat} (ht : t < tn) (hA : A < 8) : w.cell? ⟨rb, t * 8 + A, none⟩ = some (.int .u64 ((s.rg t).getD A 0 : Nat)) := by
  have hl : t < s.regs.length := by rw [h.rl]; exact ht
  exact h.r.at _ (by rw [List.getElem?_toArray]; exact regC_at h.rows hl hA)
/-- Whatever leaves the machine's blocks alone leaves the machine. -/
theorem MAt.chg {l : List Nat} (h : MAt B mb pb rb db ta tn tc cv w s) (hc : Chg l w w') (h1 : mb ∉ l) (h2 : pb ∉ l) (h3 : rb ∉ l) (h4 : db ∉ l) (h5 : ∀ q, cv.ownBlock = some q → q ∉ l) : MAt B mb pb rb db ta tn tc cv w' s :=
  ⟨h.m.chg hc h1, h.p.chg hc h2, h.r.chg hc h3, h.d.chg hc h4, h.own.chg hc h5, h.pl, h.rl, h.dl, h.rows, h.hm, h.hp, h.hr, h.hd⟩
theorem MAt.chg0 (h : MAt B mb pb rb db ta tn tc cv w s) (hc : Chg [] w w') : MAt B mb pb rb db ta tn tc cv w' s := h.chg hc (by simp) (by simp) (by simp) (by simp) (by simp)
theorem MAt.setP (h : MAt B mb pb rb db ta tn tc cv w s) {t : Nat} (_ht : t < tn) (v : Nat) : MAt B mb pb rb db ta tn tc cv (w.setCell ⟨pb, t, none⟩ (.int .i64 v)) ⟨s.places.set t v, s.regs, s.done, s.C, s.steps⟩ := by
  refine ⟨h.m.far (Blk.ne h.m h.p (by decide)) _, ?_, h.r.far (Blk.ne h.r h.p (by decide)) _, h.d.far (Blk.ne h.d h.p (by decide)) _, h.own.chg ((Chg.refl [pb] w).setCell (.inl (by simp)) _) (fun q hq hm => ?_), by simpa using h.pl, h.rl, h.dl, h.rows, h.hm, h.hp, h.hr, h.hd⟩
  · refine Blk.conv (h.p.set t (.int .i64 v)) ?_
    simp [List.map_set]
  · simp at hm; subst hm; exact own_ne h.own.1 h.p (by decide) hq.symm
theorem MAt.setR (h : MAt B mb pb rb db ta tn tc cv w s) {t A v : Nat} (ht : t < tn) (hA : A < 8) (hv : v < 18446744073709551616) : MAt B mb pb rb db ta tn tc cv (w.setCell ⟨rb, t * 8 + A, none⟩ (.int .u64 v)) ⟨s.places, s.regs.set t ((s.rg t).set A v), s.done, s.C, s.steps⟩ := by
  have hl : t < s.regs.length := by rw [h.rl]; exact ht
  refine ⟨h.m.far (Blk.ne h.m h.r (by decide)) _, h.p.far (Blk.ne h.p h.r (by decide)) _, ?_, h.d.far (Blk.ne h.d h.r (by decide)) _, h.own.chg ((Chg.refl [rb] w).setCell (.inl (by simp)) _) (fun q hq hm => ?_), h.pl, by simpa using h.rl, h.dl, rows8_set h.rows hl hA hv, h.hm, h.hp, h.hr, h.hd⟩
  · refine Blk.conv (h.r.set (t * 8 + A) (.int .u64 v)) ?_
    rw [List.setIfInBounds_toArray, regC_set h.rows hl hA]
    rfl
  · simp at hm; subst hm; exact own_ne h.own.1 h.r (by decide) hq.symm
theorem MAt.setD (h : MAt B mb pb rb db ta tn tc cv w s) {t : Nat} (_ht : t < tn) (v : Bool) : MAt B mb pb rb db ta tn tc cv (w.setCell ⟨db, t, none⟩ (.bool v)) ⟨s.places, s.regs, s.done.set t v, s.C, s.steps⟩ := by
  refine ⟨h.m.far (Blk.ne h.m h.d (by decide)) _, h.p.far (Blk.ne h.p h.d (by decide)) _, h.r.far (Blk.ne h.r h.d (by decide)) _, ?_, h.own.chg ((Chg.refl [db] w).setCell (.inl (by simp)) _) (fun q hq hm => ?_), h.pl, h.rl, by simpa using h.dl, h.rows, h.hm, h.hp, h.hr, h.hd⟩
  · refine Blk.conv (h.d.set t (.bool v)) ?_
    simp [List.map_set]
  · simp at hm; subst hm; exact own_ne h.own.1 h.d (by decide) hq.symm
theorem MAt.setC {gc n k : Nat} {w : World} (h : MAt B mb pb rb db ta tn tc (.slice (some ⟨gc, 0, none⟩) n k) w s) {j v : Nat} (hj : j < s.C.length) (hv : v < 18446744073709551616) : MAt B mb pb rb db ta tn tc (.slice (some ⟨gc, 0, none⟩) n k) (w.setCell ⟨gc, j, none⟩ (.int .u64 v)) ⟨s.places, s.regs, s.done, s.C.set j v, s.steps⟩ := by
  have hne : ∀ {g : Nat} {t : TypeId} {cs : Array Value}, Blk w g t cs → t ≠ 38 → g ≠ gc := fun hg ht e => own_ne h.own.1 hg (Ne.symm ht) (by rw [e]; rfl)
  exact ⟨h.m.far (hne h.m (by decide)) _, h.p.far (hne h.p (by decide)) _, h.r.far (hne h.r (by decide)) _, h.d.far (hne h.d (by decide)) _, h.own.put hj hv, h.pl, h.rl, h.dl, h.rows, h.hm, h.hp, h.hr, h.hd⟩
theorem MAt.setS (h : MAt B mb pb rb db ta tn tc cv w s) (v : Nat) : MAt B mb pb rb db ta tn tc cv (w.setCell ⟨mb, 5, none⟩ (.int .i64 v)) ⟨s.places, s.regs, s.done, s.C, v⟩ :=
  ⟨h.m.set 5 _, h.p.far (Blk.ne h.p h.m (by decide)) _, h.r.far (Blk.ne h.r h.m (by decide)) _, h.d.far (Blk.ne h.d h.m (by decide)) _, h.own.chg ((Chg.refl [mb] w).setCell (.inl (by simp)) _) (fun q hq hm => by simp at hm; subst hm; exact own_ne h.own.1 h.m (by decide) hq.symm), h.pl, h.rl, h.dl, h.rows, h.hm, h.hp, h.hr, h.hd⟩
end

set_option maxRecDepth 100000 in
theorem stopped_any (w : World) (B D mb pb rb db : Nat) (ta : Option Addr) (tn tc : Nat) (cv : Value) (T : List (List Ins)) (s : RS) (hM : MAt B mb pb rb db ta tn tc cv w s) (hT : T.length = tn) (hrd : RdT w D ta T) (t : Nat) (ht : t < tn) :
    Calls Try.prog 28 #[.pointer (some ⟨mb, 0, none⟩), .int .i64 t] w fun e w' => e = .returned (.bool (stopR T s t)) ∧ ∃ q, w' = w.drewN q := by
  have m0 := hM.m.at 0 rfl
  have m1 := hM.m.at 1 rfl
  have m4 := hM.m.at 4 rfl
  have cp := hM.at_p ht
  have cd := hM.at_d ht
  obtain ⟨b, off, at_, ct, e1, hb, c0, h1, h2, _⟩ := hrd t (by rw [hT]; exact ht)
  subst e1
  have hst : stopR T s t = (s.dn t || decide ((T.getD t []).length ≤ s.pl t)) := rfl
  have hti : (t : Int) < (tn : Int) := by omega
  rw [hst]
  clear hM hrd hT hst
  generalize s.dn t = dn at cd
  generalize s.pl t = p at cp
  generalize (T.getD t []).length = L at c0
  cases dn with
  | true =>
    rw [Bool.true_or]
    go_enter Try.func28, Try.ntmps28
    go_upto_region 1 with fail
    go_quiet (fail)
    go_wp2_with fail
    go_ret
    exact ⟨rfl, _, rfl⟩
  | false =>
    rw [Bool.false_or]
    go_enter Try.func28, Try.ntmps28
    go_upto_region 1 with fail
    go_quiet (fail)
    go_wp2_with fail
    go_ret
    exact ⟨rfl, _, rfl⟩

end Go.Proofs.Ytlcgighhiacnpaa
