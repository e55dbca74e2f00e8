/- What a step does: in plain terms, and in a row of tasks; conditions: none. -/
import Derived.Test.YtlcgighhiacnpaaWdPure
import Derived.Laws.OwnMore
namespace Go.Proofs.Ytlcgighhiacnpaa
open Go.RowKit

structure Tk where
  regs : List Nat
  pos : Nat
def u64 (n : Int) : Nat := (n % 18446744073709551616).toNat
theorem u64_lt (n : Int) : u64 n < 18446744073709551616 := by unfold u64; omega
theorem u64_wrap (n : Int) : IntKind.u64.wrap n = ((u64 n : Nat) : Int) := by unfold u64; rw [IntKind.wrap_u64]; omega

/-- One instruction: the task, the cells, was it an access? -/
def exec (l : List Ins) (tk : Tk) (C : List Nat) : Tk × List Nat × Bool :=
  let x := l.getD tk.pos ins0
  let A := x.a.toNat
  let B := x.b.toNat
  let N := x.n.toNat
  if x.k = 1 then (⟨tk.regs.set A (u64 x.n), tk.pos + 1⟩, C, false)
  else if x.k = 2 then (⟨tk.regs.set A (tk.regs.getD B 0), tk.pos + 1⟩, C, false)
  else if x.k = 3 then (⟨tk.regs.set A ((tk.regs.getD B 0 + u64 x.n) % 18446744073709551616), tk.pos + 1⟩, C, false)
  else if x.k = 4 then (⟨tk.regs.set A (C.getD N 0), tk.pos + 1⟩, C, true)
  else if x.k = 5 then (⟨tk.regs, tk.pos + 1⟩, C.set N (tk.regs.getD A 0), true)
  else if x.k = 6 then if C.getD N 0 = tk.regs.getD A 0 then (⟨tk.regs.set A 1, tk.pos + 1⟩, C.set N (tk.regs.getD B 0), true) else (⟨tk.regs.set A 0, tk.pos + 1⟩, C, true)
  else if x.k = 7 then (⟨tk.regs, if tk.regs.getD A 0 = 0 then N else tk.pos + 1⟩, C, false)
  else (⟨tk.regs, l.length⟩, C, false)

def stepM (l : List Ins) : Nat → Tk → List Nat → Tk × List Nat
  | 0, tk, C => (tk, C)
  | f + 1, tk, C => if l.length ≤ tk.pos then (tk, C) else
    match exec l tk C with
    | (tk', C', true) => (tk', C')
    | (tk', C', false) => stepM l f tk' C'

/-- A task lies in a row of tasks, from place o on. -/
structure TkAt (cs : Array Value) (o : Nat) (hd : Value) (tk : Tk) : Prop where
  hd : cs[o]? = some hd
  pos : cs[o + 9]? = some (.int .i64 tk.pos)
  reg : ∀ r, r < 8 → cs[o + 1 + r]? = some (.int .u64 (tk.regs.getD r 0 : Nat))
  len : tk.regs.length = 8
  lt : ∀ r, tk.regs.getD r 0 < 18446744073709551616
/-- Outside the task all is as it was. -/
def SameOut (cs cs' : Array Value) (o : Nat) : Prop := cs'.size = cs.size ∧ ∀ j, j < o ∨ o + 10 ≤ j → cs'[j]? = cs[j]?
theorem SameOut.refl (cs : Array Value) (o : Nat) : SameOut cs cs o := ⟨rfl, fun _ _ => rfl⟩
theorem SameOut.set {cs cs' : Array Value} {o j : Nat} (h : SameOut cs cs' o) (h1 : o ≤ j) (h2 : j < o + 10) (x : Value) : SameOut cs (cs'.setIfInBounds j x) o :=
  ⟨by simpa using h.1, fun k hk => by rw [Array.getElem?_setIfInBounds, if_neg (by omega)]; exact h.2 k hk⟩
theorem getD_setN {l : List Nat} {i j v : Nat} (hi : i < l.length) : (l.set i v).getD j 0 = if i = j then v else l.getD j 0 := by
  by_cases e : i = j
  · subst e; simp [List.getD, hi]
  · simp [List.getD, List.getElem?_set, e]
section
variable {cs : Array Value} {o : Nat} {hd : Value} {tk : Tk}
theorem TkAt.lt_size (h : TkAt cs o hd tk) : o + 9 < cs.size := (Array.getElem?_eq_some_iff.1 h.pos).1
theorem TkAt.setReg (h : TkAt cs o hd tk) {r x : Nat} (hr : r < 8) (hx : x < 18446744073709551616) : TkAt (cs.setIfInBounds (o + 1 + r) (.int .u64 x)) o hd ⟨tk.regs.set r x, tk.pos⟩ := by
  have hz := h.lt_size
  have hl := h.len
  refine ⟨?_, ?_, fun k hk => ?_, by simpa using hl, fun k => ?_⟩
  · rw [Array.getElem?_setIfInBounds, if_neg (by omega)]; exact h.hd
  · rw [Array.getElem?_setIfInBounds, if_neg (by omega)]; exact h.pos
  · rw [Array.getElem?_setIfInBounds]
    show _ = some (Value.int .u64 ((tk.regs.set r x).getD k 0 : Nat))
    rw [getD_setN (by omega)]
    by_cases e : r = k
    · subst e; rw [if_pos rfl, if_pos rfl, if_pos (by omega)]
    · rw [if_neg (by omega), if_neg e]; exact h.reg k hk
  · show (tk.regs.set r x).getD k 0 < _
    rw [getD_setN (by omega)]
    split
    · exact hx
    · exact h.lt k
theorem TkAt.setPos (h : TkAt cs o hd tk) (x : Nat) : TkAt (cs.setIfInBounds (o + 9) (.int .i64 x)) o hd ⟨tk.regs, x⟩ := by
  have hz := h.lt_size
  refine ⟨?_, ?_, fun k hk => ?_, h.len, h.lt⟩
  · rw [Array.getElem?_setIfInBounds, if_neg (by omega)]; exact h.hd
  · rw [Array.getElem?_setIfInBounds, if_pos rfl, if_pos hz]
  · rw [Array.getElem?_setIfInBounds, if_neg (by omega)]; exact h.reg k hk
end

/-- Cells of words. -/
def uvl (C : List Nat) : List Value := C.map fun x : Nat => Value.int .u64 x
theorem uvl_len (C : List Nat) : (uvl C).length = C.length := by simp [uvl]
theorem uvl_set (C : List Nat) (i x : Nat) : (uvl C).set i (.int .u64 x) = uvl (C.set i x) := by simp [uvl, List.map_set]
def OwnU (B : Nat) (w : World) (v : Value) (C : List Nat) : Prop := w.ownsRow B 38 1 v C.length (uvl C) ∧ ∀ k, C.getD k 0 < 18446744073709551616
theorem OwnU.at {B : Nat} {w : World} {v : Value} {C : List Nat} (h : OwnU B w v C) {j : Nat} (hj : j < C.length) : ∃ g cap, v = .slice (some ⟨g, 0, none⟩) C.length cap ∧ C.length ≤ cap ∧ B ≤ g ∧ g < w.heap.size ∧ w.cell? ⟨g, j, none⟩ = some (.int .u64 (C.getD j 0 : Nat)) ∧
    (∀ k, w.frozen? ⟨g, k, none⟩ = false) ∧ ∀ x : Nat, x < 18446744073709551616 → OwnU B (w.setCell ⟨g, j, none⟩ (.int .u64 x)) v (C.set j x) := by
  rcases h.1.2 with ⟨_, h0⟩ | ⟨g, cap, cur, rfl, hB, hg, h3, h4, h5, h6⟩
  · omega
  · have hg' : Blk w g 38 cur := hg
    refine ⟨g, cap, rfl, h3, hB, hg'.lt, hg'.at j ?_, hg'.free, fun x hx => ⟨⟨by simp [uvl], .inr ⟨g, cap, _, by simp, hB, hg'.set j (.int .u64 x), by simpa using h3, h4, by simpa using h5, ?_⟩⟩, fun k => ?_⟩⟩
    · have : (uvl C)[j]? = some (.int .u64 (C.getD j 0 : Nat)) := by simp [uvl, List.getD, hj]
      rw [← h6, List.getElem?_take, if_pos (by omega)] at this
      simpa using this
    · rw [Array.toList_setIfInBounds, List.length_set, List.take_set, h6, uvl_set]
    · rw [getD_setN hj]
      split
      · exact hx
      · exact h.2 k
theorem OwnU.put {B : Nat} {w : World} {gc n cap : Nat} {C : List Nat} (h : OwnU B w (.slice (some ⟨gc, 0, none⟩) n cap) C) {j x : Nat} (hj : j < C.length) (hx : x < 18446744073709551616) : OwnU B (w.setCell ⟨gc, j, none⟩ (.int .u64 x)) (.slice (some ⟨gc, 0, none⟩) n cap) (C.set j x) := by
  obtain ⟨g', cap', e, _, _, _, _, _, hs⟩ := h.at hj
  injection e with e _ _
  injection e with e
  injection e with e _ _
  subst e
  exact hs x hx
theorem OwnU.chg {B : Nat} {w w' : World} {v : Value} {C : List Nat} {l : List Nat} (h : OwnU B w v C) (hc : Chg l w w') (hn : ∀ g, v.ownBlock = some g → g ∉ l) : OwnU B w' v C := ⟨own_chg h.1 hc hn, h.2⟩
theorem OwnU.new {B : Nat} {w : World} {v : Value} {C : List Nat} (h : OwnU B w v C) (o : Obj) : OwnU B (w.alloc o) v C := h.chg ((Chg.refl [] w).alloc o) (by simp)
theorem OwnU.drew {B : Nat} {w : World} {v : Value} {C : List Nat} (h : OwnU B w v C) : OwnU B w.drew v C := h.chg ((Chg.refl [] w).drew) (by simp)

end Go.Proofs.Ytlcgighhiacnpaa
