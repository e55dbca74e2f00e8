/- Acts of trees that came in; among; a tree as the laws keep it: its calls by contract; conditions: none. -/
import Derived.Test.YthplnecnagbedaaTrScan
import Derived.Test.YthplnecnagbedaaNdKit
import Derived.Test.YthplnecnagbedaaNdStr
namespace Go.Proofs.Ythplnecnagbedaa
open Go.ChangeShapes Go.WideShapes Go.ChangeAt Go.RowKit Go.Deep

structure ActT where
  kind : Int
  key : ByteArray
  to_ : ByteArray
  val : Int
def actT0 : ActT := ⟨0, emp, emp, 0⟩
instance : Inhabited ActT := ⟨actT0⟩
/-- A slice of acts that came in. -/
def RdT (w : World) (B : Nat) (ao : Option Addr) (A : List ActT) : Prop :=
  ∀ k, k < A.length → ∃ b off, ao = some ⟨b, off, none⟩ ∧ b < B ∧ w.cell? ⟨b, off + k * 4, none⟩ = some (.int .i64 (A.getD k actT0).kind) ∧ w.cell? ⟨b, off + k * 4 + 1, none⟩ = some (.string (A.getD k actT0).key) ∧
    w.cell? ⟨b, off + k * 4 + 2, none⟩ = some (.string (A.getD k actT0).to_) ∧ w.cell? ⟨b, off + k * 4 + 3, none⟩ = some (.int .i64 (A.getD k actT0).val)
theorem RdT.below {w w' : World} {B : Nat} {ao : Option Addr} {A : List ActT} (h : RdT w B ao A) (hb : Below B w w') : RdT w' B ao A := fun k hk => by
  obtain ⟨b, off, e, hB, c0, c1, c2, c3⟩ := h k hk
  exact ⟨b, off, e, hB, (hb.cell (p := ⟨b, _, none⟩) hB).trans c0, (hb.cell (p := ⟨b, _, none⟩) hB).trans c1, (hb.cell (p := ⟨b, _, none⟩) hB).trans c2, (hb.cell (p := ⟨b, _, none⟩) hB).trans c3⟩

section
variable {H : Type} {enc : TypeId × Value → H} {P : Program} {w : World} {spare : Nat → Bool} {held : Bool}
theorem open_tacts {t e : TypeId} {f0 f1 f2 f3 : Field} {ao : Option Addr} {len cap : Nat} {d : DataW H} {p : List MemPlace} (ht : P.underlying t = some (.slice e)) (he : P.underlying e = some (.struct #[f0, f1, f2, f3]))
    (hone : oneCellFields P #[f0, f1, f2, f3] = true) (hC : P.cellsOf e = 4) (h0 : P.underlying f0.type = some (.int .i64)) (h1 : P.underlying f1.type = some .string) (h2 : P.underlying f2.type = some .string) (h3 : P.underlying f3.type = some (.int .i64))
    (h : DataW.Trod enc P w 0 spare held t (.slice ao len cap) d p) : len ≤ maxLen ∧ ∃ A : List ActT, A.length = len ∧ RdT w w.heap.size ao A := by
  obtain ⟨hl, hm, hall⟩ := open_rows ht he hone hC (by simp) h
  obtain ⟨F, hF⟩ := choose_lt (α := ActT) (n := len) (p := fun k x => ∃ b off, ao = some ⟨b, off, none⟩ ∧ b < w.heap.size ∧ w.cell? ⟨b, off + k * 4, none⟩ = some (.int .i64 x.kind) ∧ w.cell? ⟨b, off + k * 4 + 1, none⟩ = some (.string x.key) ∧
      w.cell? ⟨b, off + k * 4 + 2, none⟩ = some (.string x.to_) ∧ w.cell? ⟨b, off + k * 4 + 3, none⟩ = some (.int .i64 x.val)) (fun i hi => by
    obtain ⟨b, off, e1, hb, hfl⟩ := hall i hi
    obtain ⟨v0, n0, y0, c0, t0⟩ := hfl 0 f0 rfl
    obtain ⟨v1, n1, y1, c1, t1⟩ := hfl 1 f1 rfl
    obtain ⟨v2, n2, y2, c2, t2⟩ := hfl 2 f2 rfl
    obtain ⟨v3, n3, y3, c3, t3⟩ := hfl 3 f3 rfl
    obtain ⟨x0, q0, _, _⟩ := DataW.trod_int h0 t0
    obtain ⟨x1, q1, rfl, _⟩ := DataW.trod_string h1 t1
    obtain ⟨x2, q2, rfl, _⟩ := DataW.trod_string h2 t2
    obtain ⟨x3, q3, _, _⟩ := DataW.trod_int h3 t3
    simp only [List.cons.injEq, and_true] at q0 q1 q2 q3
    subst q0 q1 q2 q3
    exact ⟨⟨x0, x1, x2, x3⟩, b, off, e1, hb, c0, c1, c2, c3⟩)
  refine ⟨by omega, (List.range len).map F, by simp, fun k hk => ?_⟩
  have hk' : k < len := by simpa using hk
  have e1 : ((List.range len).map F).getD k actT0 = F k := by simp [List.getD, hk']
  rw [e1]
  exact hF k hk'
end

theorem amongT (x n : Int) (w : World) (h1 : 1 ≤ n) (h2 : n ≤ 1000) :
    Calls Try.prog 42 #[.int .i64 x, .int .i64 n] w fun e w' => e = .returned (.int .i64 (x % n)) ∧ w = w' := by
  have hb := tmod_bd x n (by omega)
  obtain ⟨b1, b2⟩ := hb
  have hm := Lib.hid (tmod_mod x n)
  by_cases h0 : 0 ≤ x
  · have b3 := Int.emod_nonneg x (show n ≠ 0 by omega)
    have b4 := Int.emod_lt_of_pos x (show 0 < n by omega)
    go_enter Try.func42, Try.ntmps42
    go_wp2
    go_ret
    exact ⟨ret_int (by rw [Int.add_emod_right]; exact Int.emod_emod_of_dvd x (Int.dvd_refl n)), rfl⟩
  · go_enter Try.func42, Try.ntmps42
    go_wp2
    go_ret
    exact ⟨ret_int hm.out, rfl⟩

/-- A tree behind at most n calls. -/
structure TS (B : Nat) (w : World) (M : TrM) (T : Tr) (n : Nat) : Prop where
  tree : TreeAt B w M T (entsT T).length
  ok : TrOk T
  bnd : Bnd n T
  few : (entsT T).length ≤ 4096
/-- What a call leaves of it. -/
structure TrFr (w : World) (M M' : TrM) (w' : World) : Prop where
  tb : M'.tb = M.tb
  sub : ∀ q ∈ M'.F, q ∈ M.F ∨ w.heap.size ≤ q
  chg : Chg M.F w w'
section
variable {B n : Nat} {w w' : World} {M : TrM} {T : Tr}
theorem TS.below (h : TS B w M T n) (hb : Below w.heap.size w w') : TS B w' M T n := ⟨h.tree.below hb, h.ok, h.bnd, h.few⟩
theorem TS.mono (h : TS B w M T n) {m : Nat} (hm : n ≤ m) : TS B w M T m := ⟨h.tree, h.ok, h.bnd.mono hm, h.few⟩
theorem TS.drewN (h : TS B w M T n) (q : Nat) : TS B (w.drewN q) M T n := ⟨h.tree.drewN q, h.ok, h.bnd, h.few⟩
theorem TS.drew (h : TS B w M T n) : TS B w.drew M T n := ⟨h.tree.drew, h.ok, h.bnd, h.few⟩
theorem TS.chg {L : List Nat} (h : TS B w M T n) (hc : Chg L w w') (hl : ∀ q ∈ M.F, q ∉ L) : TS B w' M T n := ⟨h.tree.chg hc hl, h.ok, h.bnd, h.few⟩
theorem TrFr.bel {M' : TrM} (h : TrFr w M M' w') (hT : TS B w M T n) : Below B w w' := h.chg.below (by have := hT.tree.base.1; have := hT.tree.blk.lt; omega) (fun q hq => hT.tree.ge hq)
theorem TrFr.refl (w : World) (M : TrM) : TrFr w M M w := ⟨rfl, fun _ h => .inl h, Chg.refl _ _⟩
theorem TrFr.trans {M' M'' : TrM} {w'' : World} (h : TrFr w M M' w') (g : TrFr w' M' M'' w'') : TrFr w M M'' w'' :=
  ⟨g.tb.trans h.tb, fun q hq => by
    rcases g.sub q hq with h1 | h1
    · exact h.sub q h1
    · exact .inr (Nat.le_trans h.chg.size h1), h.chg.trans g.chg h.sub⟩
theorem TrFr.below {M' : TrM} {w'' : World} (h : TrFr w M M' w') (hb : Below w'.heap.size w' w'') : TrFr w M M' w'' := ⟨h.tb, h.sub, h.chg.trans (Chg.of_below hb []) (by simp)⟩
theorem below_fr {M' : TrM} {w'' : World} (hb : Below w.heap.size w w') (h : TrFr w' M M' w'') : TrFr w M M' w'' :=
  ⟨h.tb, fun q hq => (h.sub q hq).imp id (Nat.le_trans hb.size), (Chg.of_below hb M.F).trans h.chg (fun _ hq => .inl hq)⟩
theorem TrFr.own {M' : TrM} (h : TrFr w M M' w') (hT : TS B w M T n) {b : Nat} {e : TypeId} {z m : Nat} {v : Value} {xs : List Value} (ho : w.ownsRow b e z v m xs) (ht : NoTr e) : w'.ownsRow b e z v m xs := own_chg ho h.chg (hT.tree.ownFar ho ht)
theorem TrFr.blk {M' : TrM} (h : TrFr w M M' w') (hT : TS B w M T n) {g : Nat} {t : TypeId} {cs : Array Value} (hb : Blk w g t cs) (ht : NoTr t) : Blk w' g t cs := hb.chg h.chg (hT.tree.far hb ht)
theorem putSpec_few {A : List Ent} (h : A.length ≤ 4096) (k : ByteArray) (v : Int) : (putSpec A k v).1.length ≤ 4096 := by
  unfold putSpec
  split
  · exact h
  · cases hg : getE A k with
    | some u =>
      dsimp only
      rw [put_len]
      have : hasE A k = true := by
        cases hh : hasE A k with
        | true => rfl
        | false => rw [get_has hh] at hg; cases hg
      rw [this]; simpa using h
    | none =>
      dsimp only
      split
      · exact h
      · dsimp only
        have := putE_len_le A k v
        omega
theorem takeSpec_few {A : List Ent} (h : A.length ≤ 4096) (k : ByteArray) : (takeSpec A k).1.length ≤ 4096 := by
  unfold takeSpec
  cases hg : getE A k with
  | some u =>
    dsimp only
    rw [take_len]
    split <;> omega
  | none => exact h

/-- Behind Put. -/
def PutS (B : Nat) (w : World) (M : TrM) (T : Tr) (n : Nat) (k : ByteArray) (v : Int) (e : Ending) (w' : World) : Prop :=
  ∃ T' M' r0 r1 r2, PutT T k v T' (r0, r1, r2) ∧ e = .returned (.tuple #[.int .i64 r0, .bool r1, .int .i64 r2]) ∧ TS B w' M' T' (n + 1) ∧ TrFr w M M' w'
theorem put_ts (h : TS B w M T n) (hn : n ≤ 10000) (k : ByteArray) (v : Int) : Calls Try.prog 43 #[.pointer (some ⟨M.tb, 0, none⟩), .string k, .int .i64 v] w (PutS B w M T n k v) :=
  (put_tr w B n M T h.ok h.tree h.bnd hn k v).mono fun e w' ⟨T', r, hP, he, M', h1, h2, h3, h4⟩ => by
    obtain ⟨r0, r1, r2⟩ := r
    exact ⟨T', M', r0, r1, r2, hP, he, ⟨h1, hP.turn.ok, hP.turn.bnd n h.bnd, by rw [hP.ents]; exact putSpec_few h.few k v⟩, ⟨h2, h3, h4⟩⟩
/-- Behind Take. -/
def TakeS (B : Nat) (w : World) (M : TrM) (T : Tr) (n : Nat) (k : ByteArray) (e : Ending) (w' : World) : Prop :=
  ∃ T' M' r0 r1, TakeT T k T' (r0, r1) ∧ e = .returned (.tuple #[.int .i64 r0, .int .i64 r1]) ∧ TS B w' M' T' (n + 1) ∧ TrFr w M M' w'
theorem take_ts (h : TS B w M T n) (hn : n ≤ 10000) (k : ByteArray) : Calls Try.prog 46 #[.pointer (some ⟨M.tb, 0, none⟩), .string k] w (TakeS B w M T n k) :=
  (take_tr w B n M T h.ok h.tree h.bnd hn (by have := h.few; omega) k).mono fun e w' ⟨T', r, hP, he, M', h1, h2, h3, h4⟩ => by
    obtain ⟨r0, r1⟩ := r
    exact ⟨T', M', r0, r1, hP, he, ⟨h1, hP.turn.ok, hP.turn.bnd n h.bnd, by rw [hP.ents]; exact takeSpec_few h.few k⟩, ⟨h2, h3, h4⟩⟩
theorem len_ts (h : TS B w M T n) : Calls Try.prog 45 #[.pointer (some ⟨M.tb, 0, none⟩)] w fun e w' => e = .returned (.int .i64 ((entsT T).length : Nat)) ∧ w = w' := len_tr w B _ M T h.tree
/-- Behind Get. -/
def GetS (w : World) (T : Tr) (k : ByteArray) (l : Lf) (e : Ending) (w' : World) : Prop :=
  ∃ g, w.heap.size ≤ g ∧ e = .returned (.tuple #[.int .i64 (getSpec (entsT T) k).1, .bool (getSpec (entsT T) k).2, .slice (some ⟨g, 0, none⟩) 1 1]) ∧ Blk w' g 118 (seenC (seenL l)) ∧ Below w.heap.size w w'
theorem get_ts (h : TS B w M T n) (hn : n ≤ 10000) (k : ByteArray) {T1 T2 : Tr} {l : Lf} (ha : AtLf T k T1 l T2) : Calls Try.prog 51 #[.pointer (some ⟨M.tb, 0, none⟩), .string k] w (GetS w T k l) :=
  get_tr w B _ M T T1 T2 l h.ok h.tree (by have := h.bnd.1; omega) k ha
theorem scan_ts (h : TS B w M T n) (hn : n ≤ 10000) (fr tk : ByteArray) (most : Nat) (hm1 : 1 ≤ most) (hm2 : most ≤ 4096) : Calls Try.prog 47 #[.pointer (some ⟨M.tb, 0, none⟩), .string fr, .string tk, .int .i64 most] w (ScanTr w (scanT T fr tk most)) :=
  scan_tr w B _ M T h.ok h.tree (by have := h.bnd.1; omega) fr tk most hm1 hm2
theorem rd3_own {b : Nat} {a : Option Addr} {c : Nat} {S : List (Nat × Nat × Nat)} (h : w.ownsRow b 118 3 (.slice a S.length c) S.length (seenCells S)) : RdN3 w a S := fun j hj => by
  have hat : ∀ i, i < 3 → (seenCells S)[j * 3 + i]? = (seenC (S.getD j (0, 0, 0))).toList[i]? := fun i hi => by
    clear h
    induction S generalizing j with
    | nil => simp at hj
    | cons s S ih =>
      have e : seenCells (s :: S) = (seenC s).toList ++ seenCells S := rfl
      rw [e]
      cases j with
      | zero => rw [Nat.zero_mul, Nat.zero_add, List.getElem?_append_left (by simp [seenC]; omega)]; rfl
      | succ j =>
        rw [List.getElem?_append_right (by simp [seenC]; omega)]
        have e2 : (j + 1) * 3 + i - (seenC s).toList.length = j * 3 + i := by simp [seenC]; omega
        rw [e2, ih j (by simpa using hj)]
        rfl
  have h0 := hat 0 (by omega)
  have h1 := hat 1 (by omega)
  have h2 := hat 2 (by omega)
  obtain ⟨g, e, _, hg, c0⟩ := own_rd h (j * 3 + 0) _ h0
  obtain ⟨g1, e1, _, _, c1⟩ := own_rd h (j * 3 + 1) _ h1
  obtain ⟨g2, e2, _, _, c2⟩ := own_rd h (j * 3 + 2) _ h2
  rw [e] at e1 e2
  injection e1 with e1; injection e1 with e1; subst e1
  injection e2 with e2; injection e2 with e2; subst e2
  exact ⟨g, 0, e, hg, by rw [Nat.zero_add]; exact c0, by rw [Nat.zero_add]; exact c1, by rw [Nat.zero_add]; exact c2⟩
theorem valid_ts (h : TS B w M T n) (hn : n ≤ 10000) (a : Option Addr) (c m : Nat) (S : List (Nat × Nat × Nat)) (hSm : S.length = m) (hS1 : m ≤ 1000000) (hR : RdN3 w a S) (hS : ∀ s ∈ S, ∃ l ∈ T, l.num = s.1) :
    Calls Try.prog 49 #[.pointer (some ⟨M.tb, 0, none⟩), .slice a m c] w fun e w' => e = .returned (.bool (validM T S)) ∧ Below w.heap.size w w' :=
  valid_tr w B _ M T h.tree h.ok (by have := h.bnd.1; omega) a c m S hSm hS1 hR hS
/-- What was seen is told of leaves that are there for ever. -/
theorem Rel.nums_in {T T' : Tr} (hr : Rel T T') {S : List (Nat × Nat × Nat)} (h : ∀ s ∈ S, ∃ l ∈ T, l.num = s.1) : ∀ s ∈ S, ∃ l ∈ T', l.num = s.1 := fun s hs => by
  obtain ⟨l, hl, e⟩ := h s hs
  obtain ⟨A, R, rfl⟩ := List.append_of_mem hl
  obtain ⟨A', l', B', e', hl'⟩ := hr A l R rfl
  exact ⟨l', by rw [e']; simp, hl'.num.trans e⟩
theorem new_ts (w : World) : Calls Try.prog 40 #[] w fun e w' => ∃ M T, e = .returned (.pointer (some ⟨M.tb, 0, none⟩)) ∧ TS w.heap.size w' M T 0 ∧ entsT T = [] ∧ Below w.heap.size w w' :=
  (new_tr w).mono fun e w' ⟨M, T, h1, h2, h3, h4, h5, h6⟩ => ⟨M, T, h1, ⟨by rw [h4]; exact h2, h3, h5, by rw [h4]; simp⟩, h4, h6⟩
end

end Go.Proofs.Ythplnecnagbedaa
