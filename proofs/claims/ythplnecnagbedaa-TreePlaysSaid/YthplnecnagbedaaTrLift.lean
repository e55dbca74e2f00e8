/- A region that draws its order and only reads, inside a round of a range over a function; conditions: no defer in it. -/
import Derived.Test.YthplnecnagbedaaTrValid
import Derived.RangeFuncNested
import Derived.RangeFuncCalls
import Derived.RangeFuncLeaves
import Derived.RangeFuncBox
namespace Go.Proofs.Ythplnecnagbedaa
open Go.RowKit

def noDef (ops : Array Oper) : Bool := ops.all fun o => match o.op with | .defer _ => false | _ => true
theorem noDef_at {ops : Array Oper} (h : noDef ops = true) {i : Nat} {o : Oper} (ho : ops[i]? = some o) : ∀ c, o.op ≠ .defer c := fun c e => by
  unfold noDef at h
  rw [Array.all_eq_true_iff_forall_mem] at h
  have := h o (Array.mem_of_getElem? ho)
  rw [e] at this
  cases this
section
variable {P : Program} {ops : Array Oper} {md : Region.Mode} {C : World → Prop} {r n : Nat}
theorem wpIn_of_quietR {o : Oper} {a : Act} {K : Act → Prop} {K' : Act → World → Prop} {Q' : Exit → Act → World → Prop} {w : World} (hnd : ∀ c, o.op ≠ .defer c) (hw : C w) (h : ∀ a w', C w' → K a → K' a w') (hh : o.quiet P a C K) : o.wpIn (Fence.wide.inRound r) n P a w K' Q' := by
  obtain ⟨v, h1, h2⟩ := hh
  have h3 := h1 w hw
  unfold Oper.quietAt at h3
  unfold Oper.wpIn
  refine ⟨fun _ _ => trivial, ?_⟩
  rw [Oper.semAt_eq _ _ _ hnd]
  generalize (execOp a.eval o).run P w = q at *
  cases q with
  | ok x w' =>
    cases x <;> simp only [Oper.quietUpon] at h3 <;> simp only [Oper.uponIn]
    case value u =>
      obtain ⟨e1, e2⟩ := h3
      rw [e1, e2]
      exact h _ _ hw h2
    case skip =>
      obtain ⟨e1, e2⟩ := h3
      rw [e1, ← e2]
      exact h _ _ hw h2
    case enter f args =>
      obtain ⟨e1, hc⟩ := h3
      rw [e1]
      refine ⟨fun hd => by simp [Fence.wide] at hd, CallsIn.inRound r (callsIn_wide.2 ?_)⟩
      exact hc.mono fun e w'' ⟨he, hw''⟩ => by subst he; exact h _ _ hw'' h2
  | halt x w' => simp only [Oper.quietUpon] at h3
theorem wpAnyIn_of_quietR {Q : Act → Prop} {Q' : Exit → Act → World → Prop} (hnd : noDef ops = true) (hQ : ∀ a w, C w → Q a → Q' .normal a w) : ∀ (fuel : Nat) (listed : Array Bool) (a : Act) (w : World), C w →
    wpAnyQ P md ops C Q fuel listed a → wpAnyIn (Fence.wide.inRound r) n P md ops Q' fuel listed a w
  | 0, _, _, _, hw, h => ⟨h.1, hQ _ _ hw h.2⟩
  | fuel + 1, _, _, _, hw, h => ⟨fun h0 => hQ _ _ hw (h.1 h0), fun i hi => by
      have hh := h.2 i hi
      unfold qOp at hh
      unfold wpOpIn
      split
      · rename_i ho; simp only [ho] at hh; exact wpAnyIn_of_quietR hnd hQ fuel _ _ _ hw hh
      · rename_i o ho
        simp only [ho] at hh
        split
        · rename_i hwt
          simp only [hwt, if_true] at hh
          exact wpIn_of_quietR (noDef_at hnd ho) hw (fun a' w' hw' => wpAnyIn_of_quietR hnd hQ fuel _ a' w' hw') hh
        · rename_i hwt
          simp only [hwt] at hh
          exact ⟨fun _ _ => trivial, wpAnyIn_of_quietR hnd hQ fuel _ _ _ hw hh⟩⟩
theorem wpIn_region_quietR {id : Nat} {Q : Exit → Act → World → Prop} {a : Act} {w : World} {l : List Oper} (hm : P.follows .mixedOrders = true) (hB : Region.lexB .any l.toArray = true) (hnd : noDef l.toArray = true)
    (h : wpQuiet P l.toArray (fun w' => ∃ n, w' = w.drewN n) (fun a' => ∀ w', (∃ n, w' = w.drewN n) → Q .normal a' w') l a) : (Code.region id l.toArray true).wpIn (Fence.wide.inRound r) n P Q a w := by
  have hB2 := hB
  simp only [Region.lexB, Bool.and_eq_true] at hB2
  refine wpIn_region_any hm (wpAnyIn_of_quietR (C := fun w' => ∃ n, w' = w.drewN n) (Q := fun a' => ∀ w', (∃ n, w' = w.drewN n) → Q .normal a' w') hnd (fun _ w' hw' h => h w' hw') _ _ _ _ ⟨1, rfl⟩ ?_)
  have := wpAnyQ_lex (C := fun w' => ∃ n, w' = w.drewN n) (md := .any) hB2.1 l.toArray.toList 0 (Array.replicate l.toArray.size false) a (by simp) (by simpa using hB2.2) (by simpa using h)
  simpa using this
end

/-- What the body of a scan leaves: only the blocks of L, and rows that these point to, may have turned. -/
def Rch (L : List Nat) (W : World) (k : Nat) : Prop := ∃ c ∈ L, ∃ v : Value, W.cell? ⟨c, 0, none⟩ = some v ∧ v.ownBlock = some k
structure ScK (L : List Nat) (W W' : World) : Prop where
  os : W'.os = W.os
  tape : W'.tape = W.tape
  output : W'.output = W.output
  size : W.heap.size ≤ W'.heap.size
  keep : ∀ k o, W.heap[k]? = some o → o.isCells = true → k ∉ L → ¬ Rch L W k → W'.heap[k]? = some o
  rch : ∀ k, Rch L W' k → Rch L W k ∨ (W.heap.size ≤ k ∧ k < W'.heap.size)
section
variable {L : List Nat} {A B C W W' : World}
theorem ScK.refl (L : List Nat) (W : World) : ScK L W W := ⟨rfl, rfl, rfl, Nat.le_refl _, fun _ _ h _ _ _ => h, fun _ h => .inl h⟩
theorem heap_lt {W : World} {k : Nat} {o : Obj} (h : W.heap[k]? = some o) : k < W.heap.size := (Array.getElem?_eq_some_iff.1 h).1
theorem ScK.trans (h : ScK L A B) (g : ScK L B C) : ScK L A C :=
  ⟨g.os.trans h.os, g.tape.trans h.tape, g.output.trans h.output, Nat.le_trans h.size g.size, fun k o hk hc hl hr => by
    refine g.keep k o (h.keep k o hk hc hl hr) hc hl (fun hb => ?_)
    rcases h.rch k hb with h1 | ⟨h1, _⟩
    · exact hr h1
    · have := heap_lt hk; omega, fun k hk => by
    rcases g.rch k hk with h1 | ⟨h1, h2⟩
    · rcases h.rch k h1 with h3 | ⟨h3, h4⟩
      · exact .inl h3
      · exact .inr ⟨h3, Nat.lt_of_lt_of_le h4 g.size⟩
    · exact .inr ⟨Nat.le_trans h.size h1, h2⟩⟩
/-- New blocks alone. -/
theorem ScK.below (hL : ∀ c ∈ L, c < W.heap.size) (h : Below W.heap.size W W') : ScK L W W' :=
  ⟨h.os, h.tape, h.output, h.size, fun k _o hk _ _ _ => (h.block k (heap_lt hk)).trans hk, fun _k ⟨c, hc, v, hv, hk⟩ => .inl ⟨c, hc, v, (h.cell (p := ⟨c, 0, none⟩) (hL c hc)).symm.trans hv, hk⟩⟩
theorem ScK.blk (h : ScK L W W') {g : Nat} {t : TypeId} {cs : Array Value} (hb : Blk W g t cs) (hl : g ∉ L) (hr : ¬ Rch L W g) : Blk W' g t cs := h.keep g _ hb rfl hl hr
theorem ScK.putObj {n0 l : Nat} {o : Obj} (hL : ∀ c ∈ L, c < n0) (hl : n0 ≤ l) (ho : W.heap[l]? = some o) (hc : o.isCells = false) (o' : Obj) : ScK L W (W.putObj l o') :=
  ⟨rfl, rfl, rfl, (grownBy_putObj' W l o').size, fun k o2 hk h2 _ _ => by
    have hne : k ≠ l := by
      rintro rfl
      rw [ho] at hk
      injection hk with hk
      rw [hk, h2] at hc
      cases hc
    rw [World.putObj_heap_other hne]; exact hk, fun k ⟨c, hcL, v, hv, hk⟩ => .inl ⟨c, hcL, v, by
      have hne : c ≠ l := by have := hL c hcL; omega
      rw [← hv]
      exact (World.cell?_of_block (w := W) (a := ⟨c, 0, none⟩) (World.putObj_heap_other hne)).symm, hk⟩⟩
theorem TreeAt.keep {B n : Nat} {M : TrM} {T : Tr} (h : TreeAt B W M T n) (hk : ∀ q t cs, q ∈ M.F → Blk W q t cs → Blk W' q t cs) : TreeAt B W' M T n := by
  have hrow : ∀ {v : Value} {m : Nat} {xs : List Value}, W.ownsRow B 109 1 v m xs → (∀ q, v.ownBlock = some q → q ∈ M.F) → W'.ownsRow B 109 1 v m xs := fun {v m xs} ho hq => by
    refine ⟨ho.1, ?_⟩
    rcases ho.2 with h0 | ⟨g, cap, cur, rfl, hb, hg, rest⟩
    · exact .inl h0
    · exact .inr ⟨g, cap, cur, rfl, hb, hk g _ _ (hq g rfl) hg, rest⟩
  exact ⟨hk _ _ _ (TreeAt.tbF M) h.blk, hrow h.rowL (fun q hq => TreeAt.aF hq), hrow h.rowN (fun q hq => TreeAt.a2F hq), fun l hl => hk _ _ _ (h.lbF hl) (h.leaf l hl), fun l hl => hk _ _ _ (h.nbF hl) (h.node l hl), h.nds, h.len, h.two, h.nums, h.base⟩
theorem TreeAt.sck {B n : Nat} {M : TrM} {T : Tr} (h : TreeAt B W M T n) (hs : ScK L W W') (hL : ∀ q ∈ M.F, q ∉ L) (hr : ∀ k, ¬ Rch L W k) : TreeAt B W' M T n :=
  h.keep fun q _ _ hq hb => hs.blk hb (hL q hq) (hr q)
end

end Go.Proofs.Ythplnecnagbedaa
