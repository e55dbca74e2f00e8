/- slices.IndexFunc and slices.DeleteFunc over things, by the closure of Free, each by its contract; conditions: bounds on the clock's numbers, at most 4096 things. -/
import Derived.Test.YtmmaklddbkdenaaCkFree
import Derived.Test.YtmmaklddbkdenaaWords2
namespace Go.Proofs.Ytmmaklddbkdenaa
open Go.RowKit

theorem call24 : ∀ (args : Array Value) (W : World), (callFunc 24 args).run Try.prog W = .ok (.enter 24 args) W := fun _ _ => by kernel_rfl

/-- The place of the first thing that may be freed (-1: there is none), and what has been told by then. -/
def FoundP (k : Ck) (ts : List (Int × Int)) (os : List Int) (r : Int) (os' : List Int) : Prop :=
  (r = -1 ∧ (∀ q, q < ts.length → freeP k (ts.getD q (0, 0)).2 = false) ∧ os' = os) ∨
  ∃ q : Nat, r = q ∧ q < ts.length ∧ (∀ j, j < q → freeP k (ts.getD j (0, 0)).2 = false) ∧ freeP k (ts.getD q (0, 0)).2 = true ∧ os' = os ++ [(ts.getD q (0, 0)).1]

def FoundE (k : Ck) (ts : List (Int × Int)) (os : List Int) (bo B : Nat) (w : World) (e : Ending) (w' : World) : Prop :=
  ∃ (r : Int) (os' : List Int) (ov' : Value), e = .returned (.int .i64 r) ∧ FoundP k ts os r os' ∧ Blk w' bo 41 #[ov'] ∧ Outs w' B ov' os' ∧ Below B w w'

set_option maxRecDepth 100000 in
set_option maxHeartbeats 2000000 in
theorem indexThings_any (w : World) (c bw bc bo B : Nat) (tv ov : Value) (k : Ck) (os : List Int) (A : Option Addr) (cap : Nat) (ts : List (Int × Int)) (h : IsClock w c bw tv k) (hk : k.Ok) (hc : Blk w bc 26 #[.pointer (some ⟨c, 0, none⟩)])
    (ho : Blk w bo 41 #[ov]) (hO : Outs w B ov os) (hB : B ≤ w.heap.size) (hbo : B ≤ bo) (h1 : c < B) (h2 : bw < B) (h3 : bc < B) (hl : os.length ≤ 10000) (hts : ts.length ≤ 4096) (hrd : Rd2 w B A ts) :
    Calls Try.prog 35 #[.slice A ts.length cap, .func (.func 24) #[] #[.pointer (some ⟨bc, 0, none⟩), .pointer (some ⟨bo, 0, none⟩)]] w (FoundE k ts os bo B w) := by
  have hcf := call24
  have HH := Lib.hid h
  have HC := Lib.hid hc
  have HR := Lib.hid hrd
  clear h hc hrd
  go_enter Try.func35, Try.ntmps35
  go_wp2
  go_loopw [8] (fun iv wr => ∃ (q : Nat) (ov : Value), q ≤ ts.length ∧ iv = .int .i64 q ∧ (∀ j, j < q → freeP k (ts.getD j (0, 0)).2 = false) ∧ Blk wr bo 41 #[ov] ∧ Outs wr B ov os ∧ Below B w wr) (fun iv _ => ts.length - (intOf iv).toNat)
  case atStart => exact ⟨0, ov, Nat.zero_le _, rfl, fun j hj => absurd hj (Nat.not_lt_zero _), ho, hO, Below.refl _ _⟩
  case round =>
    obtain ⟨q, ov1, hq, rfl, hno, ho1, hO1, hb1⟩ := hrel
    have hz := hb1.size
    have HN := Lib.hid hno
    clear hno
    by_cases hlt : q < ts.length
    · have hr := (HR.out.below hb1) q hlt
      obtain ⟨b, off, rfl, hbB, r1, r2⟩ := hr
      have hF := free1_any wr c bw bc bo B tv ov1 k os ⟨HH.out.1.below hb1 h1, HH.out.2.below hb1 h2⟩ hk (HC.out.below hb1 h3) ho1 hO1 (by omega) (by omega) (ts.getD q (0, 0)).1 (ts.getD q (0, 0)).2
      generalize hth : (ts.getD q (0, 0)).1 = th at hF r1
      generalize hep : (ts.getD q (0, 0)).2 = ep at hF r2
      have HTH := Lib.hid hth
      have HEP := Lib.hid hep
      clear hth hep
      cases hp : freeP k ep with
      | true =>
        rw [hp] at hF
        have HP := Lib.hid hp
        clear hp
        go_wp2_with (go_at_call 24; refine hF.mono ?_; rintro e w3 ⟨rfl, ov3, ho3, hO3, c3, m3⟩)
        go_ret
        refine ⟨q, os ++ [th], ov3, rfl, .inr ⟨q, rfl, hlt, HN.out, by rw [HEP.out]; exact HP.out, by rw [HTH.out]⟩, ho3, by simpa using hO3, hb1.trans (c3.below (by omega) ?_)⟩
        intro x hx
        simp only [List.mem_cons, Option.mem_toList] at hx
        rcases hx with rfl | hx
        · exact hbo
        · exact (hO1.lt x hx).1
      | false =>
        rw [hp] at hF
        have HP := Lib.hid hp
        clear hp
        go_wp2_with (go_at_call 24; refine hF.mono ?_; rintro e w3 ⟨rfl, ov3, ho3, hO3, c3, m3⟩)
        go_roundw
        case rel =>
          refine ⟨q + 1, ov3, by omega, by go_num, fun j hj => ?_, ho3, by simpa using hO3, hb1.trans (c3.below (by omega) ?_)⟩
          · by_cases e : j = q
            · subst e; rw [HEP.out]; exact HP.out
            · exact HN.out j (by omega)
          · intro x hx
            simp only [List.mem_cons, Option.mem_toList] at hx
            rcases hx with rfl | hx
            · exact hbo
            · exact (hO1.lt x hx).1
        case measure => simp [intOf]; omega
    · go_wp2_with fail
      go_ret
      exact ⟨-1, os, ov1, rfl, .inl ⟨rfl, fun j hj => HN.out j (by omega), rfl⟩, ho1, hO1, hb1⟩

theorem thCells_cons (x : Int × Int) (l : List (Int × Int)) : thCells (x :: l) = .int .i64 x.1 :: .int .i64 x.2 :: thCells l := rfl
theorem thCells_get (L : List (Int × Int)) (q : Nat) (h : q < L.length) : (thCells L)[q * 2]? = some (.int .i64 (L.getD q (0, 0)).1) ∧ (thCells L)[q * 2 + 1]? = some (.int .i64 (L.getD q (0, 0)).2) := by
  induction L generalizing q with
  | nil => simp at h
  | cons x l ih =>
    rw [thCells_cons]
    cases q with
    | zero => exact ⟨rfl, rfl⟩
    | succ q =>
      obtain ⟨a, b⟩ := ih q (by simpa using h)
      rw [show (q + 1) * 2 = q * 2 + 1 + 1 by omega]
      simpa using ⟨a, b⟩
theorem thCells_take (L : List (Int × Int)) (q : Nat) : (thCells L).take (q * 2) = thCells (L.take q) := by
  induction L generalizing q with
  | nil => simp [thCells]
  | cons x l ih =>
    cases q with
    | zero => simp [thCells]
    | succ q =>
      rw [thCells_cons, show (q + 1) * 2 = q * 2 + 1 + 1 by omega]
      simp [ih, thCells_cons]
theorem thCells_set (L : List (Int × Int)) (q : Nat) (a b : Int) : ((thCells L).set (q * 2) (.int .i64 a)).set (q * 2 + 1) (.int .i64 b) = thCells (L.set q (a, b)) := by
  induction L generalizing q with
  | nil => simp [thCells]
  | cons x l ih =>
    cases q with
    | zero => simp [thCells]
    | succ q =>
      rw [thCells_cons, show (q + 1) * 2 = q * 2 + 1 + 1 by omega]
      simp [ih, thCells_cons]
theorem row_get {cur : Array Value} {n : Nat} {L : List (Int × Int)} (h : cur.toList.take (n * 2) = thCells L) (hL : L.length = n) {q : Nat} (hq : q < n) :
    cur[q * 2]? = some (.int .i64 (L.getD q (0, 0)).1) ∧ cur[q * 2 + 1]? = some (.int .i64 (L.getD q (0, 0)).2) := by
  obtain ⟨a, b⟩ := thCells_get L q (by omega)
  rw [← h, List.getElem?_take] at a b
  rw [if_pos (by omega)] at a b
  exact ⟨by simpa using a, by simpa using b⟩
theorem row_set {cur : Array Value} {n : Nat} {L : List (Int × Int)} (h : cur.toList.take (n * 2) = thCells L) (q : Nat) (a b : Int) :
    ((cur.setIfInBounds (q * 2) (.int .i64 a)).setIfInBounds (q * 2 + 1) (.int .i64 b)).toList.take (n * 2) = thCells (L.set q (a, b)) := by
  simp only [Array.toList_setIfInBounds, List.take_set, h]
  exact thCells_set L q a b

/-- What stays of the things, and what is told. -/
def keepT (k : Ck) (ts : List (Int × Int)) : List (Int × Int) := ts.filter fun x => !freeP k x.2
def toldT (k : Ck) (ts : List (Int × Int)) : List Int := (ts.filter fun x => freeP k x.2).map (·.1)
theorem keepT_len (k : Ck) (ts : List (Int × Int)) : (keepT k ts).length ≤ ts.length := List.length_filter_le _ _
theorem toldT_len (k : Ck) (ts : List (Int × Int)) : (toldT k ts).length ≤ ts.length := by
  unfold toldT; rw [List.length_map]; exact List.length_filter_le _ _
theorem take_succ_getD (ts : List (Int × Int)) (q : Nat) (h : q < ts.length) : ts.take (q + 1) = ts.take q ++ [ts.getD q (0, 0)] := by
  rw [List.take_succ_eq_append_getElem h]; simp [List.getD, h]
theorem keepT_snoc (k : Ck) (l : List (Int × Int)) (x : Int × Int) : keepT k (l ++ [x]) = if freeP k x.2 then keepT k l else keepT k l ++ [x] := by
  unfold keepT; cases h : freeP k x.2 <;> simp [h]
theorem toldT_snoc (k : Ck) (l : List (Int × Int)) (x : Int × Int) : toldT k (l ++ [x]) = if freeP k x.2 then toldT k l ++ [x.1] else toldT k l := by
  unfold toldT; cases h : freeP k x.2 <;> simp [h]
theorem none_free (k : Ck) (ts : List (Int × Int)) (q : Nat) (hq : q ≤ ts.length) (h : ∀ j, j < q → freeP k (ts.getD j (0, 0)).2 = false) : keepT k (ts.take q) = ts.take q ∧ toldT k (ts.take q) = [] := by
  induction q with
  | zero => exact ⟨by simp [keepT], by simp [toldT]⟩
  | succ q ih =>
    obtain ⟨a, b⟩ := ih (by omega) (fun j hj => h j (by omega))
    rw [take_succ_getD ts q (by omega), keepT_snoc, toldT_snoc, h q (by omega), a, b]
    exact ⟨rfl, rfl⟩

end Go.Proofs.Ytmmaklddbkdenaa
