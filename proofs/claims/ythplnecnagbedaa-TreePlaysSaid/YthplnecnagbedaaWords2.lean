/- More words for memory: a whole row set, clear of a slice's end; conditions: none. -/
import Derived.Test.YthplnecnagbedaaWords
namespace Go.Proofs.Ythplnecnagbedaa
open Go.RowKit

section
variable {w w' : World} {g : Nat} {t : TypeId} {cs : Array Value} {l : List Nat}
theorem Blk.setRow (h : Blk w g t cs) (cs' : Array Value) : Blk (w.setRow g cs') g t cs' := setRow_heap w g cs cs' t (0, 0) h
theorem Blk.farRow (h : Blk w g t cs) {g' : Nat} (hg : g ≠ g') (cs' : Array Value) : Blk (w.setRow g' cs') g t cs := (setRow_other w g' g cs' hg).trans h
theorem Chg.setRow (h : Chg l w w') {g : Nat} (hp : g ∈ l ∨ w.heap.size ≤ g) (cs : Array Value) : Chg l w (w'.setRow g cs) :=
  ⟨h.os, h.tape, h.output, by simpa using h.size, fun k hk hn => (setRow_other w' g k cs (by
    rintro rfl
    rcases hp with h1 | h1
    · exact hn h1
    · omega)).trans (h.block k hk hn)⟩
end

theorem run_clear {P : Program} (t ty e : TypeId) (i : TypeInfo) (z : Value) (ht : P.underlying t = some (.slice e)) (hi : P.info? e = some i) (hz : i.zero = some z) (hz1 : ∀ v ∈ z.cells, v.oneCell' = true)
    {w : World} {g : Nat} {cur : Array Value} (hb : Blk w g e cur) (off n c : Nat) (hn : 0 < n) (hfit : off + n * z.cells.size ≤ cur.size) :
    (Builtin.clear_ #[t] ty #[.slice (some ⟨g, off, none⟩) n c]).run P w = .ok (.tuple #[]) (w.setRow g (cur.toList.take off ++ (Builtin.zeroCells z.cells n).toList ++ cur.toList.drop (off + n * z.cells.size)).toArray) := by
  have hlen : (Builtin.zeroCells z.cells n).toList.length = n * z.cells.size := by simp [Builtin.zeroCells]
  have hone : ∀ v ∈ (Builtin.zeroCells z.cells n).toList, v.oneCell' = true := by
    intro v hv
    by_cases hz0 : z.cells.size = 0
    · have : (Builtin.zeroCells z.cells n).toList = [] := List.eq_nil_of_length_eq_zero (by rw [hlen, hz0]; simp)
      rw [this] at hv; simp at hv
    · have hmem : ∃ j, z.cells[j % z.cells.size]! = v := by
        simp only [Builtin.zeroCells, Array.mem_toList_iff, Array.mem_map] at hv
        obtain ⟨j, _, hj⟩ := hv
        exact ⟨j, hj⟩
      obtain ⟨j, rfl⟩ := hmem
      have hlt : j % z.cells.size < z.cells.size := Nat.mod_lt _ (Nat.pos_of_ne_zero hz0)
      rw [getElem!_pos z.cells _ hlt]
      exact hz1 _ (Array.getElem_mem hlt)
  have h := run_storeCells_at P g off e (Builtin.zeroCells z.cells n).toList 0 cur w hb (by rw [hlen]; omega) hone
  rw [hlen, Nat.add_zero] at h
  obtain ⟨m, rfl⟩ : ∃ m, n = m + 1 := ⟨n - 1, by omega⟩
  simp [Builtin.clear_, run_underlying ht, zeroValue, typeInfo, hi, hz, h]

theorem wpList_clear {P : Program} {ops : Array Oper} {rest : List Oper} {o : Oper} {a : Act} {Q : Exit → Act → World → Prop} (hgd : o.guard = none) (x : Operand) (t : TypeId)
    (ho : o.op = .call { callee := .builtin .clear, args := #[x], argTypes := #[t] }) (e : TypeId) (i : TypeInfo) (z : Value) (ht : P.underlying t = some (.slice e)) (hi : P.info? e = some i) (hz : i.zero = some z) (hz1 : ∀ v ∈ z.cells, v.oneCell' = true)
    {w : World} {g : Nat} {cur : Array Value} (hb : Blk w g e cur) (off n c : Nat) (hx : a.eval x = .slice (some ⟨g, off, none⟩) n c) (hn : 0 < n) (hfit : off + n * z.cells.size ≤ cur.size)
    (h : wpList P ops Q rest (a.put o.dst (.tuple #[])) (w.setRow g (cur.toList.take off ++ (Builtin.zeroCells z.cells n).toList ++ cur.toList.drop (off + n * z.cells.size)).toArray)) : wpList P ops Q (o :: rest) a w := by
  refine wpList_plain hgd fun K hK => ?_
  have hr := run_clear (P := P) t o.type e i z ht hi hz hz1 hb off n c hn hfit
  unfold Oper.wp execOp
  simp only [ho, resolve, invoke, builtin, Sem.run_bind, Sem.run_pure, Result.andThen_ok, List.map_toArray, List.map_cons, List.map_nil, hx, hr]
  exact hK _ _ h

/-- Below block B only the blocks of the list may have changed. -/
structure BChg (B : Nat) (l : List Nat) (w w' : World) : Prop where
  os : w'.os = w.os
  tape : w'.tape = w.tape
  output : w'.output = w.output
  size : w.heap.size ≤ w'.heap.size
  block : ∀ k, k < B → k ∉ l → w'.heap[k]? = w.heap[k]?

section
variable {w w' w'' : World} {B : Nat} {l l' : List Nat}
theorem BChg.refl (B : Nat) (l : List Nat) (w : World) : BChg B l w w := ⟨rfl, rfl, rfl, Nat.le_refl _, fun _ _ _ => rfl⟩
theorem BChg.trans (h : BChg B l w w') (h' : BChg B l w' w'') : BChg B l w w'' :=
  ⟨h'.os.trans h.os, h'.tape.trans h.tape, h'.output.trans h.output, Nat.le_trans h.size h'.size, fun k hk hn => (h'.block k hk hn).trans (h.block k hk hn)⟩
theorem BChg.of_below (h : Below B w w') (l : List Nat) : BChg B l w w' := ⟨h.os, h.tape, h.output, h.size, fun k hk _ => h.block k hk⟩
theorem BChg.chg (h : BChg B l w w') (h' : Chg l' w' w'') (hB : B ≤ w'.heap.size) (hl : ∀ k ∈ l', k ∈ l ∨ B ≤ k) : BChg B l w w'' :=
  ⟨h'.os.trans h.os, h'.tape.trans h.tape, h'.output.trans h.output, Nat.le_trans h.size h'.size, fun k hk hn => (h'.block k (by omega) (fun hm => by rcases hl k hm with h1 | h1; exact hn h1; omega)).trans (h.block k hk hn)⟩
theorem BChg.alloc (h : BChg B l w w') (hB : B ≤ w'.heap.size) (o : Obj) : BChg B l w (w'.alloc o) := h.chg (l' := []) ((Chg.refl [] _).alloc o) hB (by simp)
theorem BChg.setCell (h : BChg B l w w') {p : Addr} (hB : B ≤ w'.heap.size) (hp : p.block ∈ l ∨ B ≤ p.block) (u : Value) : BChg B l w (w'.setCell p u) :=
  h.chg (l' := [p.block]) ((Chg.refl _ _).setCell (.inl (by simp)) u) hB (by simpa using hp)
theorem BChg.setRow (h : BChg B l w w') {g : Nat} (hB : B ≤ w'.heap.size) (hp : g ∈ l ∨ B ≤ g) (cs : Array Value) : BChg B l w (w'.setRow g cs) :=
  h.chg (l' := [g]) ((Chg.refl _ _).setRow (.inl (by simp)) cs) hB (by simpa using hp)
theorem BChg.to_chg (h : BChg w.heap.size l w w') : Chg l w w' := ⟨h.os, h.tape, h.output, h.size, h.block⟩
theorem own_bchg {base : Nat} {e : TypeId} {size : Nat} {v : Value} {n : Nat} {xs : List Value} (h : w.ownsRow base e size v n xs) (hc : BChg B l w w') (hn : ∀ g, v.ownBlock = some g → g < B ∧ g ∉ l) : w'.ownsRow base e size v n xs := by
  refine ⟨h.1, ?_⟩
  rcases h.2 with h0 | ⟨g, cap, cur, rfl, hb, hg, rest⟩
  · exact .inl h0
  · obtain ⟨a, b⟩ := hn g rfl
    exact .inr ⟨g, cap, cur, rfl, hb, (hc.block g a b).trans hg, rest⟩
theorem BChg.blk {g : Nat} {t : TypeId} {cs : Array Value} (h : BChg B l w w') (hb : Blk w g t cs) (hg : g < B) (hn : g ∉ l) : Blk w' g t cs := (h.block g hg hn).trans hb
end

end Go.Proofs.Ythplnecnagbedaa
