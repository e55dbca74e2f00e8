/- What lies apart from a tree stays while the tree is put to, taken from: by contract; searches that meet no bound; conditions: none. -/
import Derived.Test.YthplnecnagbedaaTrGrown
namespace Go.Proofs.Ythplnecnagbedaa
def inP (fr tk : ByteArray) (e : Ent) : Bool := !bl e.1 fr && (decide (tk = emp) || bl e.1 tk)
theorem goE_all {tk : ByteArray} {most : Nat} : ∀ (E A : List Ent), A.length + E.length ≤ most → goE tk most E A = A ++ E.takeWhile fun e => decide (tk = emp) || bl e.1 tk := by
  intro E
  induction E with
  | nil => intro A _; simp [goE]
  | cons e E ih =>
    intro A h
    simp only [List.length_cons] at h
    unfold goE
    have hm : decide (A.length = most) = false := by simp; omega
    rw [hm, Bool.false_or, List.takeWhile_cons]
    by_cases ht : tk = emp
    · rw [ih (A ++ [e]) (by simp; omega)]
      simp [ht]
    · cases hb : bl e.1 tk with
      | true =>
        rw [ih (A ++ [e]) (by simp; omega)]
        simp [ht]
      | false => simp [ht]
theorem sorted_tw {E : List Ent} (hs : SortedE E) (tk : ByteArray) : (E.takeWhile fun e => decide (tk = emp) || bl e.1 tk) = E.filter fun e => decide (tk = emp) || bl e.1 tk := by
  induction E with
  | nil => rfl
  | cons e E ih =>
    have h2 := List.pairwise_cons.1 hs
    rw [List.takeWhile_cons, List.filter_cons]
    by_cases ht : tk = emp
    · simp only [ht, decide_true, Bool.true_or, if_true]
      congr 1
      have := ih h2.2
      simpa [ht] using this
    · cases hb : bl e.1 tk with
      | true =>
        simp only [Bool.or_true, if_true]
        rw [ih h2.2]
      | false =>
        simp only [ht, decide_false, Bool.or_self]
        symm
        simp only [Bool.false_eq_true, if_false]
        rw [List.filter_eq_nil_iff]
        intro x hx
        have hx2 := h2.1 x hx
        simp only [Bool.false_or]
        cases hc : bl x.1 tk with
        | true => rw [bl_trans hx2 hc] at hb; cases hb
        | false => simp
theorem scanE_all {A : List Ent} (hs : SortedE A) {fr tk : ByteArray} {most : Nat} (h : A.length ≤ most) : scanE A fr tk most = A.filter (inP fr tk) := by
  unfold scanE
  rw [goE_all _ _ (by have := List.length_filter_le (fun e : Ent => !bl e.1 fr) A; simp; omega), sorted_tw (List.Pairwise.filter _ hs), List.nil_append, List.filter_filter]
  congr 1
  funext e
  unfold inP
  rw [Bool.and_comm]
theorem parts_app {A : List Ent} (hs : SortedE A) {fr tk at_ : ByteArray} (h0 : at_ ≠ emp) (h1 : bl at_ fr = false) (h2 : tk ≠ emp → bl tk at_ = false) : A.filter (inP fr at_) ++ A.filter (inP at_ tk) = A.filter (inP fr tk) := by
  induction A with
  | nil => rfl
  | cons e A ih =>
    have hp := List.pairwise_cons.1 hs
    cases hb : bl e.1 at_ with
    | true =>
      have e2 : inP at_ tk e = false := by unfold inP; simp [hb]
      have e1 : inP fr at_ e = inP fr tk e := by
        unfold inP
        rw [hb]
        by_cases ht : tk = emp
        · simp [ht]
        · rw [bl_lt_le hb (h2 ht)]; simp
      rw [List.filter_cons, List.filter_cons, List.filter_cons, e2, e1, ← ih hp.2]
      cases inP fr tk e <;> simp
    | false =>
      have hx : ∀ x ∈ e :: A, bl x.1 at_ = false := by
        intro x hx
        rcases List.mem_cons.1 hx with rfl | hx
        · exact hb
        · cases hc : bl x.1 at_ with
          | true => rw [bl_trans (hp.1 x hx) hc] at hb; cases hb
          | false => rfl
      have e1 : (e :: A).filter (inP fr at_) = [] := by
        rw [List.filter_eq_nil_iff]
        intro x hx2
        unfold inP
        simp [hx x hx2, h0]
      rw [e1, List.nil_append]
      apply List.filter_congr
      intro x hx2
      have h4 : bl x.1 fr = false := by
        cases hc : bl x.1 fr with
        | true => have := bl_lt_le hc h1; rw [hx x hx2] at this; cases this
        | false => rfl
      unfold inP
      rw [hx x hx2, h4]
theorem scanE_parts {A : List Ent} (hs : SortedE A) {fr tk at_ : ByteArray} {most : Nat} (h : A.length ≤ most) (h0 : at_ ≠ emp) (h1 : bl at_ fr = false) (h2 : tk ≠ emp → bl tk at_ = false) :
    scanE A fr at_ most ++ scanE A at_ tk most = scanE A fr tk most := by
  rw [scanE_all hs h, scanE_all hs h, scanE_all hs h]
  exact parts_app hs h0 h1 h2
theorem scanE_mem {A : List Ent} (hs : SortedE A) {fr tk : ByteArray} {most : Nat} (h : A.length ≤ most) {e : Ent} (he : e ∈ scanE A fr tk most) : e ∈ A := by
  rw [scanE_all hs h] at he
  exact (List.mem_filter.1 he).1
theorem scanE_len {A : List Ent} (hs : SortedE A) {fr tk : ByteArray} {most : Nat} (h : A.length ≤ most) : (scanE A fr tk most).length ≤ A.length := by
  rw [scanE_all hs h]
  exact List.length_filter_le _ _
theorem scanE_nothing {A : List Ent} (hs : SortedE A) {most : Nat} (h : A.length ≤ most) : scanE A emp emp most = A := by
  rw [scanE_all hs h, List.filter_eq_self]
  intro e _
  unfold inP
  rw [bl_emp]; simp
theorem scanE_at {A : List Ent} (hs : SortedE A) {e : Ent} (he : e ∈ A) : scanE A e.1 emp 1 = [e] := by
  obtain ⟨X, Y, rfl⟩ := List.append_of_mem he
  have hp := List.pairwise_append.1 hs
  unfold scanE
  rw [List.filter_append]
  have e1 : X.filter (fun x => !bl x.1 e.1) = [] := by
    rw [List.filter_eq_nil_iff]
    intro x hx
    simp [hp.2.2 x hx e (by simp)]
  rw [e1, List.nil_append, List.filter_cons]
  simp only [bl_irrefl, Bool.not_false, if_true]
  unfold goE
  simp only [List.length_nil]
  rw [if_neg (by simp), goE_full (by simp)]
  rfl
theorem getSpec_mem {A : List Ent} (hs : SortedE A) {e : Ent} (he : e ∈ A) : getSpec A e.1 = (e.2, true) := by
  unfold getSpec
  rw [(get_iff hs).2 he]
open Go.RowKit

theorem getSpec_has (A : List Ent) (k : ByteArray) : (getSpec A k).2 = hasE A k := by
  unfold getSpec
  cases hh : hasE A k with
  | true => obtain ⟨u, hu⟩ := get_of_has hh; rw [hu]
  | false => rw [get_has hh]
/-- What lies apart from every tree. -/
structure KeepQ (Q : World → Prop) : Prop where
  fr : ∀ {B n : Nat} {M M' : TrM} {T : Tr} {w w' : World}, TS B w M T n → TrFr w M M' w' → Q w → Q w'
  bel : ∀ {w w' : World}, Below w.heap.size w w' → Q w → Q w'
theorem keep_own (b : Nat) (e : TypeId) (z m : Nat) (v : Value) (xs : List Value) (h : NoTr e) : KeepQ fun w => w.ownsRow b e z v m xs :=
  ⟨fun hT hf h1 => hf.own hT h1 h, fun hb h1 => own_chg h1 (Chg.of_below hb []) (by simp)⟩
theorem keep_blk (g : Nat) (t : TypeId) (cs : Array Value) (h : NoTr t) : KeepQ fun w => Blk w g t cs :=
  ⟨fun hT hf h1 => hf.blk hT h1 h, fun hb h1 => h1.below hb h1.lt⟩
theorem KeepQ.and {Q R : World → Prop} (h : KeepQ Q) (g : KeepQ R) : KeepQ fun w => Q w ∧ R w :=
  ⟨fun hT hf h1 => ⟨h.fr hT hf h1.1, g.fr hT hf h1.2⟩, fun hb h1 => ⟨h.bel hb h1.1, g.bel hb h1.2⟩⟩
/-- A tree behind one call more, and what lay apart. -/
def StepQ (B tb n : Nat) (Tx : Tr) (Q : World → Prop) (w : World) : Prop := ∃ My Ty, My.tb = tb ∧ TS B w My Ty n ∧ Turn Tx Ty ∧ Q w
section
variable {B n : Nat} {w w' : World} {M : TrM} {T : Tr} {Q : World → Prop}
theorem put_q (hQ : KeepQ Q) (hS : TS B w M T n) (hn : n ≤ 10000) (hq : Q w) (k : ByteArray) (v : Int) :
    Calls Try.prog 43 #[.pointer (some ⟨M.tb, 0, none⟩), .string k, .int .i64 v] w fun e w' => ∃ r0 r1 r2, e = .returned (.tuple #[.int .i64 r0, .bool r1, .int .i64 r2]) ∧ StepQ B M.tb (n + 1) T Q w' ∧ Below B w w' :=
  (put_ts hS hn k v).mono fun _e _w' ⟨T', M', r0, r1, r2, hP, he, hS', hF⟩ => ⟨r0, r1, r2, he, ⟨M', T', hF.tb, hS', hP.turn, hQ.fr hS hF hq⟩, hF.bel hS⟩
theorem take_q (hQ : KeepQ Q) (hS : TS B w M T n) (hn : n ≤ 10000) (hq : Q w) (k : ByteArray) :
    Calls Try.prog 46 #[.pointer (some ⟨M.tb, 0, none⟩), .string k] w fun e w' => ∃ r0 r1, e = .returned (.tuple #[.int .i64 r0, .int .i64 r1]) ∧ StepQ B M.tb (n + 1) T Q w' ∧ Below B w w' :=
  (take_ts hS hn k).mono fun _e _w' ⟨T', M', r0, r1, hP, he, hS', hF⟩ => ⟨r0, r1, he, ⟨M', T', hF.tb, hS', hP.turn, hQ.fr hS hF hq⟩, hF.bel hS⟩
/-- What a search left: keys, values, what was seen. -/
def SeenQ (b : Nat) (a8 : Option Addr) (c8 : Nat) (a10 : Option Addr) (c10 : Nat) (st : ScS) (w : World) : Prop :=
  w.ownsRow b 9 1 (.slice a8 st.A.length c8) st.A.length (st.A.map fun e => .string e.1) ∧ w.ownsRow b 118 3 (.slice a10 st.S.length c10) st.S.length (seenCells st.S)
theorem keep_seen (b : Nat) (a8 : Option Addr) (c8 : Nat) (a10 : Option Addr) (c10 : Nat) (st : ScS) : KeepQ (SeenQ b a8 c8 a10 c10 st) :=
  (keep_own _ _ _ _ _ _ (noTr 9 rfl)).and (keep_own _ _ _ _ _ _ (noTr 118 rfl))
theorem own_keys {b : Nat} {a : Option Addr} {k : Nat} {A : List Ent} (h : w.ownsRow b 9 1 (.slice a A.length k) A.length (A.map fun e => .string e.1)) : RdS w w.heap.size a (A.map (·.1)) := fun j hj => by
  have hj' : j < A.length := by simpa using hj
  obtain ⟨g, e, _, hg, c⟩ := own_rd h j (.string A[j].1) (by simp [hj'])
  exact ⟨g, 0, e, hg, by rw [Nat.zero_add, c]; simp [List.getD, hj']⟩
/-- Between two rounds: how the tree stands to the one that was looked at. -/
def KeptI (B tb n : Nat) (T : Tr) (Q : World → Prop) (ch : Bool) (w : World) : Prop := ∃ M Tx, M.tb = tb ∧ TS B w M Tx n ∧ Rel T Tx ∧ (ch = false → cntT Tx = cntT T) ∧ Q w
end

end Go.Proofs.Ythplnecnagbedaa
