/- apart, word and move of package node, each by its contract; conditions: a word is below 2 to the 64, slots below sixteen. -/
import Derived.Test.YthplnecnagbedaaNtPure
import Derived.Test.YthplnecnagbedaaProg
import Derived.Deep.AppendLies
import Derived.Deep.DeepCutAuto
import Derived.Deep.CutBlock
import Derived.Deep.MidRow
namespace Go.Proofs.Ythplnecnagbedaa
open Go.RowKit

/-- An element of an array value, by its place. -/
theorem wpList_index_arr {P : Program} {ops : Array Oper} {rest : List Oper} {o : Oper} {a : Act} {w : World} {Q : Exit → Act → World → Prop} (hgd : o.guard = none) (t : TypeId) (x ix : Operand) (ho : o.op = .index t x ix)
    (len : Nat) (elem : TypeId) (hu : P.underlying t = some (.array len elem)) (hsz : (P.info? elem).map (·.size) = some 1) (hagg : (isAgg elem).run P w = .ok false w)
    (cs : Array Value) (hx : a.eval x = .agg cs) (j : Nat) (hi : a.eval ix = .int .i64 j) (hj : j < len) (v : Value) (hv : cs[j]? = some v)
    (h : wpList P ops Q rest (a.put o.dst v) w) : wpList P ops Q (o :: rest) a w := by
  refine wpList_plain hgd fun K hK => ?_
  have h2 := hK _ _ h
  cases hq : P.info? elem with
  | none => simp [hq] at hsz
  | some i =>
    have hs : i.size = 1 := by simpa [hq] using hsz
    unfold Oper.wp execOp
    simp [ho, hx, hi, Instr.index, asIntOf, Sem.run_bind, run_underlying hu, hj, sizeOf, typeInfo, hq, hs, part, hagg, hv, Result.andThen]
    exact h2

/-- Type t is a struct or an array of n cells. -/
def RowT (P : Program) (t : TypeId) (n : Nat) : Prop := (∃ d, P.underlying t = some d ∧ d.isRow = true) ∧ (P.info? t).map (·.size) = some n
theorem rowT_of (t : TypeId) (n : Nat) (h : ((Try.prog.underlying t).map TypeDesc.isRow, (Try.prog.info? t).map (·.size)) = (some true, some n)) : RowT Try.prog t n := by
  simp only [Prod.mk.injEq, Option.map_eq_some_iff] at h
  obtain ⟨⟨d, h1, h2⟩, h3⟩ := h
  exact ⟨⟨d, h1, h2⟩, by obtain ⟨i, h4, h5⟩ := h3; rw [h4]; exact congrArg some h5⟩
theorem row87 : RowT Try.prog 87 16 := rowT_of 87 16 (by kernel_rfl)
theorem row85 : RowT Try.prog 85 15 := rowT_of 85 15 (by kernel_rfl)

section
variable {P : Program} {ops : Array Oper} {rest : List Oper} {o : Oper} {a : Act} {w : World} {Q : Exit → Act → World → Prop}
/-- A whole block is read as a value. -/
theorem wpList_load_blk (hgd : o.guard = none) (t : TypeId) (x : Operand) (ho : o.op = .load t x) (g : Nat) (hx : a.eval x = .pointer (some ⟨g, 0, none⟩)) {te : TypeId} {cs : Array Value} (hB : Blk w g te cs) (hr : RowT P t cs.size)
    (h : wpList P ops Q rest (a.put o.dst (.agg cs)) w) : wpList P ops Q (o :: rest) a w := by
  obtain ⟨⟨d, h1, h2⟩, h3⟩ := hr
  have hc : w.rangeAt g 0 cs.toList := fun j v hv => by rw [Nat.zero_add]; exact hB.at j (by simpa using hv)
  exact wpList_load_mid hgd t x ho g 0 hx cs.toList d hc h1 h2 (by simpa using h3) (by simpa using h)
/-- A result that is a variable of its own. -/
theorem results_blk {fn : Func} {p : Tmp} {ty : TypeId} (h : fn.results = #[.cell p ty]) (tmps : Array Value) (w : World) (g : Nat) {te : TypeId} {cs : Array Value} (hp : tmps.getD p undef = .pointer (some ⟨g, 0, none⟩)) (hB : Blk w g te cs) (hr : RowT P ty cs.size) :
    (results fn tmps).run P w = .ok (.agg cs) w := by
  obtain ⟨⟨d, h1, h2⟩, h3⟩ := hr
  have hp' : tmps[p]?.getD undef = .pointer (some ⟨g, 0, none⟩) := by simpa using hp
  have hc : w.rangeAt g 0 cs.toList := fun j v hv => by rw [Nat.zero_add]; exact hB.at j (by simpa using hv)
  have := run_loadVar_mid w g 0 ty cs.toList d hc h1 h2 (by simpa using h3)
  simp [results, h, hp', asAddr, this]
/-- Part of a block, from place k on, is read as a value. -/
theorem wpList_load_part (hgd : o.guard = none) (t : TypeId) (x : Operand) (ho : o.op = .load t x) (g k : Nat) (hx : a.eval x = .pointer (some ⟨g, k, none⟩)) {te : TypeId} {cs : Array Value} (hB : Blk w g te cs) (L : List Value) (hL : cs.toList.drop k = L) (hr : RowT P t L.length)
    (h : wpList P ops Q rest (a.put o.dst (.agg L.toArray)) w) : wpList P ops Q (o :: rest) a w := by
  obtain ⟨⟨d, h1, h2⟩, h3⟩ := hr
  subst hL
  refine wpList_load_mid hgd t x ho g k hx _ d (fun j v hv => ?_) h1 h2 (by simpa using h3) h
  exact hB.at _ (by simpa [List.getElem?_drop] using hv)
/-- A whole block is written. -/
theorem wpList_store_blk (hgd : o.guard = none) (t : TypeId) (x y : Operand) (ho : o.op = .store t x y) (g : Nat) (cells : Array Value) (hx : a.eval x = .pointer (some ⟨g, 0, none⟩)) (hy : a.eval y = .agg cells) {te : TypeId} {old : Array Value}
    (hB : Blk w g te old) (hr : RowT P t cells.size) (hs : old.size = cells.size) (h1 : cells.all (·.oneCell') = true)
    (h : wpList P ops Q rest (a.put o.dst undef) (w.setRow g cells)) : wpList P ops Q (o :: rest) a w :=
  wpList_store_row hgd t x y ho g cells hx hy te old hB hr.2 hs h1 h
end

set_option maxRecDepth 100000 in
theorem apart_any (w : World) (x : Nat) (hx : x < 18446744073709551616) : Calls Try.prog 53 #[.int .u64 x] w fun e w' => e = .returned (.agg (pv (partsL x))) ∧ Below w.heap.size w w' := by
  have e0 := and15 x hx
  have p0 := Lib.hid (partsAt_zero x)
  have u1 : x % 16 < 16 := Nat.mod_lt _ (by omega)
  generalize x % 16 = u at e0 p0 u1
  go_enter Try.func53, Try.ntmps53
  go_wp2
  go_loopg [8] 15 (fun gn i wr => ∃ (j : Nat), j ≤ 15 ∧ i = .int .i64 j ∧ gn = 15 - j ∧ Blk wr w.heap.size 87 (pv (partsAt x j)) ∧ Below w.heap.size w wr)
  case atStart =>
    refine ⟨0, by omega, rfl, rfl, ?_, (Below.refl _ _).alloc (Nat.le_refl _) _⟩
    rw [p0.out]
    exact Blk.conv (Blk.new _ _ _) rfl
  case round =>
    obtain ⟨j, hj, rfl, rfl, hB, hb⟩ := hrel
    have hz := partsAt_len x j hj
    by_cases h15 : j < 15
    · have hk : ∃ v, (partsAt x j)[1 + j]? = some v := ⟨_, List.getElem?_eq_getElem (by omega)⟩
      obtain ⟨v, hk⟩ := hk
      have h1 := hB.at (1 + j) (pv_get hk)
      have h2 := hB.free (1 + j)
      have hstep := Lib.hid (partsAt_step x j h15)
      have ej := and15 (x / 2 ^ (4 + 4 * j)) (Nat.lt_of_le_of_lt (Nat.div_le_self _ _) hx)
      have d1 : x / 2 ^ (4 + 4 * j) % 16 < 16 := Nat.mod_lt _ (by omega)
      generalize x / 2 ^ (4 + 4 * j) % 16 = d at ej d1 hstep
      have ec : ((x / 2 ^ (4 + 4 * j) : Nat) : Int) = (x : Int) / 2 ^ (4 + 4 * j) := by rw [Int.natCast_ediv]; simp
      rw [ec] at ej
      clear ec hk
      go_wp2
      go_roundg (15 - (j + 1))
      case rel =>
        refine ⟨j + 1, by omega, by go_num, rfl, ?_, by (repeat first | with_reducible refine Below.drew ?_ | with_reducible refine below_drewN ?_ _ | with_reducible refine Below.alloc ?_ (by simp only [World.size_alloc, World.size_setCell, World.size_drew, World.heap_drewN]; omega) _ | with_reducible refine Below.setCell ?_ (by dsimp only; omega) _); exact hb⟩
        rw [← hstep.out, ← pv_set]
        exact Blk.conv (hB.set (1 + j) _) rfl
      case measure => omega
    · obtain rfl : j = 15 := by omega
      rw [partsAt_end] at hB hz
      have hp := pv_size (partsL x)
      have hone := pv_one (partsL x)
      rw [hz] at hp
      have hr := row87
      rw [← hp] at hr
      go_wp2_with (first
        | (refine wpList_load_blk rfl 87 _ rfl w.heap.size rfl hB hr ?_)
        | (refine wpList_store_blk rfl 87 _ _ rfl w.heap.size (pv (partsL x)) rfl rfl hB hr rfl hone ?_))
      refine bodyPost_ret (results_blk rfl _ _ w.heap.size rfl (hB.setRow _) hr) rfl ⟨rfl, below_setRow hb (Nat.le_refl _) _⟩

set_option maxRecDepth 100000 in
theorem word_any (w : World) (u : Nat) (l : List Nat) (hl : l.length = 15) (hu : u < 16) (hd : ∀ x ∈ l, x < 16) :
    Calls Try.prog 55 #[.agg (pv (u :: l))] w fun e w' => e = .returned (.int .u64 (wordL u l)) ∧ Below w.heap.size w w' := by
  have hB : Blk (w.alloc (.cells (pv (u :: l)) 87)) w.heap.size 87 (pv (u :: l)) := Blk.new _ _ _
  have hbl := (Below.refl w.heap.size w).alloc (Nat.le_refl _) (.cells (pv (u :: l)) 87)
  have c0 := hB.at 0 (pv_get (x := u) (by simp))
  have hr : RowT Try.prog 85 (l.map fun x : Nat => Value.int .i64 x).length := by rw [List.length_map, hl]; exact row85
  have hdrop : (pv (u :: l)).toList.drop 1 = l.map fun x : Nat => Value.int .i64 x := by simp [pv]
  have HB := Lib.hid hB
  have HD := Lib.hid hdrop
  clear hB hdrop
  generalize pv (u :: l) = A at c0 HB HD hbl ⊢
  go_enter Try.func55, Try.ntmps55
  go_wp2_with (refine wpList_load_part rfl 85 _ rfl w.heap.size 1 rfl HB.out _ HD.out hr ?_)
  go_loopg [3, 11] 15 (fun gn z i wr => ∃ (j : Nat), j ≤ 15 ∧ i = .int .i64 j ∧ z = .int .u64 (undigs (u :: l.take j)) ∧ gn = 15 - j ∧ Below w.heap.size w wr)
  case atStart =>
    exact ⟨0, by omega, rfl, by simp [undigs], rfl, hbl⟩
  case round =>
    obtain ⟨j, hj, rfl, rfl, rfl, hb⟩ := hrel
    have hlt : undigs (u :: l.take j) < 18446744073709551616 := by
      have := undigs_lt (u :: l.take j) (fun x hx => by rcases List.mem_cons.1 hx with rfl | hx; exact hu; exact hd _ (List.mem_of_mem_take hx))
      have h16 : (u :: l.take j).length ≤ 16 := by simp; omega
      exact Nat.lt_of_lt_of_le this (Nat.pow_le_pow_right (by omega) h16)
    by_cases h15 : j < 15
    · have hjl : j < l.length := by omega
      have hxd : l[j] < 16 := hd _ (List.getElem_mem hjl)
      have hidx : (l.map fun x : Nat => Value.int .i64 x).toArray[j]? = some (.int .i64 (l[j] : Nat)) := by simp [hjl]
      have hor := or_join (u :: l.take j) (j + 1) l[j] (fun x hx => by rcases List.mem_cons.1 hx with rfl | hx; exact hu; exact hd _ (List.mem_of_mem_take hx)) (by simp; omega)
      rw [List.cons_append, ← List.take_succ_eq_append_getElem hjl] at hor
      have hlt2 : undigs (u :: l.take (j + 1)) < 18446744073709551616 := by
        have := undigs_lt (u :: l.take (j + 1)) (fun x hx => by rcases List.mem_cons.1 hx with rfl | hx; exact hu; exact hd _ (List.mem_of_mem_take hx))
        have h16 : (u :: l.take (j + 1)).length ≤ 16 := by simp; omega
        exact Nat.lt_of_lt_of_le this (Nat.pow_le_pow_right (by omega) h16)
      have hsh : l[j] * 2 ^ (4 * (j + 1)) < 18446744073709551616 := by
        have : undigs (u :: l.take (j + 1)) ≥ l[j] * 2 ^ (4 * (j + 1)) := by rw [← hor]; exact Nat.right_le_or
        omega
      have hX := u64_or_nat _ _ hlt hsh
      rw [hor] at hX
      have HI := Lib.hid hidx
      generalize l[j] = d at HI hsh hX hxd
      obtain ⟨z2, hz2⟩ : ∃ z2, z2 = undigs (u :: l.take (j + 1)) := ⟨_, rfl⟩
      rw [← hz2] at hX hlt2
      have HZ := Lib.hid hz2
      clear hz2
      generalize undigs (u :: l.take j) = z at hX hlt
      clear hor hidx
      go_wp2_with (refine wpList_index_arr rfl 85 _ _ rfl 15 3 (by kernel_rfl) (by kernel_rfl) (by kernel_rfl) _ rfl j rfl h15 _ HI.out ?_)
      have hw : IntKind.u64.wrap ((d : Int) * 2 ^ (4 + 4 * j)) = ((d * 2 ^ (4 * (j + 1)) : Nat) : Int) := by
        have e : ((d * 2 ^ (4 * (j + 1)) : Nat) : Int) = (d : Int) * 2 ^ (4 + 4 * j) := by rw [show 4 * (j + 1) = 4 + 4 * j by omega]; simp
        rw [← e, IntKind.wrap_u64]; omega
      go_roundg (15 - (j + 1))
      case rel => exact ⟨j + 1, by omega, by go_num, by rw [hw, hX, HZ.out], rfl, hb⟩
      case measure => omega
    · obtain rfl : j = 15 := by omega
      rw [List.take_of_length_le (by omega)]
      go_wp2
      go_ret
      exact ⟨rfl, hb⟩

end Go.Proofs.Ythplnecnagbedaa
