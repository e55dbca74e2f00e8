/- append(s, make([]T, n)...) where the row must grow: the law the shelf lacks; for slices.Insert at leaves; conditions: as stated. -/
import Derived.Test.YthplnecnagbedaaTrFind
import Derived.Maps.AppendAt
import Derived.Test.YthplnecnagbedaaAppends
namespace Go.Proofs.Ythplnecnagbedaa
open Go.RowKit

theorem run_append_zeros {P : Program} (w : World) (t u ty e : TypeId) (i : TypeInfo) (z : Value) (ht : P.underlying t = some (.slice e)) (hu : P.underlying u = some (.int .i64)) (hi : P.info? e = some i) (hz : i.zero = some z)
    (b : Addr) (sLen sCap : Nat) (olds : List Value) (hlo : olds.length = sLen * i.size) (holds : ∀ j v, olds[j]? = some v → w.cell? (b.add j) = some v)
    (n : Nat) (hn1 : 0 < n * i.size) (hn2 : n ≤ 1000000) (hby : i.bytes ≤ 1000)
    (hg : sCap < sLen + n) (h63 : ((sLen + n : Nat) : Int) ≤ 9223372036854775807) (hfit : Builtin.nextslicecap (sLen + n) sCap * i.bytes ≤ 281474976710656) :
    (Builtin.append_ #[t, u] ty #[.slice (some b) sLen sCap, .int .i64 n]).run P w =
      .ok (.slice (some ⟨w.heap.size, 0, none⟩) (sLen + n) (grownCap w (sLen + n) sCap e))
        (w.drew.alloc (.cells (olds.toArray ++ Builtin.zeroCells z.cells n ++ Builtin.zeroCells z.cells (grownCap w (sLen + n) sCap e - (sLen + n))) e)) := by
  have hn : ¬ (sLen + n ≤ sCap) := by omega
  have h63' : ¬ (9223372036854775807 < ((sLen : Int) + (n : Int))) := by omega
  have h48' : ¬ (281474976710656 < Builtin.nextslicecap (sLen + n) sCap * i.bytes) := by omega
  have hfo := run_firstCells_some (P := P) w.drew i.size sLen b sLen sCap olds hlo (by simpa using holds)
  have hw : IntKind.i64.wrap (n : Int) = (n : Int) := by rw [IntKind.wrap_i64]; omega
  have hnn : ¬ ((n : Int) < 0) := by omega
  have hb2 : ¬ (281474976710656 < (n : Int) * (i.bytes : Int)) := by
    have : n * i.bytes ≤ 1000000 * 1000 := Nat.mul_le_mul hn2 hby
    have h2 : ((n * i.bytes : Nat) : Int) ≤ 1000000000 := by omega
    rw [Int.natCast_mul] at h2
    omega
  have hnz : ¬ (n * i.size = 0) := by omega
  have hnz1 : n ≠ 0 := by rintro rfl; simp at hn1
  have hnz2 : i.size ≠ 0 := by intro h; rw [h] at hn1; simp at hn1
  simp [Builtin.append_, run_underlying ht, run_underlying hu, sizeOf, typeInfo, zeroValue, hi, hz, asInt, asIntOf, hw, hnn, hb2, hn, h63', h48', Question.forced, hfo, newRow, grownCap]
  exact fun h => absurd h hnz

/-- At a row of the call's own, one cell an element: the row is made anew and is longer by zeroes. -/
theorem wpList_append_zeros {P : Program} {ops : Array Oper} {rest : List Oper} {o : Oper} {a : Act} {w : World} {Q : Exit → Act → World → Prop} (hgd : o.guard = none) (s x : Operand) (t u : TypeId)
    (ho : o.op = .call { callee := .builtin .append, args := #[s, x], argTypes := #[t, u] })
    (e : TypeId) (i : TypeInfo) (z : Value) (ht : P.underlying t = some (.slice e)) (hu : P.underlying u = some (.int .i64)) (hi : P.info? e = some i) (hz : i.zero = some z)
    (hsize : i.size = 1) (hby : i.bytes ≤ 1000) (hzs : z.cells = #[z])
    (b : Addr) (sLen sCap : Nat) (hs : a.eval s = .slice (some b) sLen sCap) (olds : List Value) (hlo : olds.length = sLen) (holds : ∀ j v, olds[j]? = some v → w.cell? (b.add j) = some v)
    (n : Nat) (hx : a.eval x = .int .i64 n) (hn1 : 0 < n) (hn2 : n ≤ 1000000) (hl : sLen ≤ 1000000) (hg : sCap < sLen + n)
    (h : ∀ (cap : Nat) (w' : World) (cur : Array Value), sLen + n ≤ cap → cap ≤ maxLen → cur.size = cap → cur.toList.take (sLen + n) = olds ++ List.replicate n z → Blk w' w.heap.size e cur → Below w.heap.size w w' → wpList P ops Q rest (a.put o.dst (.slice (some ⟨w.heap.size, 0, none⟩) (sLen + n) cap)) w') :
    wpList P ops Q (o :: rest) a w := by
  refine wpList_plain hgd fun K hK => ?_
  have hr := run_append_zeros (P := P) w t u o.type e i z ht hu hi hz b sLen sCap olds (by rw [hsize]; omega) holds n (by rw [hsize]; omega) hn2 hby hg (by omega) (by
    have := nextslicecap_le hg
    have h2 : Builtin.nextslicecap (sLen + n) sCap * i.bytes ≤ 4000000 * 1000 := Nat.mul_le_mul (by omega) hby
    omega)
  unfold Oper.wp execOp
  simp only [ho, resolve, invoke, builtin, Sem.run_bind, Sem.run_pure, Result.andThen_ok, List.map_toArray, List.map_cons, List.map_nil, hs, hx, hr]
  have hge := grownCap_ge w (sLen + n) sCap e
  have hcm := grownCap_le_maxLen w (sLen + n) sCap e (by unfold maxLen; omega)
  have hz1 : z.cells.size = 1 := by rw [hzs]; rfl
  refine hK _ _ (h (grownCap w (sLen + n) sCap e) _ _ hge hcm ?_ ?_ (Blk.new w.drew e _) (((Below.refl _ w).drew).alloc (Nat.le_refl _) _))
  · simp only [Array.size_append, List.size_toArray, size_zeroCells, hz1, hlo]
    omega
  · have hzc : (Builtin.zeroCells z.cells n).toList = List.replicate n z := by
      have hm : ∀ i, (#[z] : Array Value)[i % 1]! = z := fun i => by rw [Nat.mod_one]; rfl
      rw [hzs]
      unfold Builtin.zeroCells
      simp only [List.size_toArray, List.length_cons, List.length_nil, Nat.zero_add, hm, Nat.mul_one]
      simp
      rw [List.map_const', List.length_range]
    simp only [Array.toList_append, hzc, List.append_assoc]
    rw [← List.append_assoc]
    have : sLen + n = (olds ++ List.replicate n z).length := by simp [hlo]
    rw [this]
    exact List.take_left

theorem wpList_append_zerosN {P : Program} {ops : Array Oper} {rest : List Oper} {o : Oper} {a : Act} {w : World} {Q : Exit → Act → World → Prop} (hgd : o.guard = none) (s x : Operand) (t u : TypeId)
    (ho : o.op = .call { callee := .builtin .append, args := #[s, x], argTypes := #[t, u] })
    (e : TypeId) (i : TypeInfo) (z : Value) (ht : P.underlying t = some (.slice e)) (hu : P.underlying u = some (.int .i64)) (hi : P.info? e = some i) (hz : i.zero = some z)
    (hsize : i.size = 1) (hby : i.bytes ≤ 1000) (hzs : z.cells = #[z])
    (b : Addr) (sLen sCap : Nat) (hs : a.eval s = .slice (some b) sLen sCap) (olds : List Value) (hlo : olds.length = sLen) (holds : ∀ j v, olds[j]? = some v → w.cell? (b.add j) = some v)
    (n : Nat) (hx : a.eval x = .int .i64 n) (hn1 : 0 < n) (hn2 : n ≤ 1000000) (hl : sLen ≤ 1000000) (hg : sCap < sLen + n) (N : Nat) (hN : sLen + n = N)
    (h : ∀ (cap : Nat) (w' : World) (cur : Array Value), N ≤ cap → cap ≤ maxLen → cur.size = cap → cur.toList.take N = olds ++ List.replicate n z → Blk w' w.heap.size e cur → Below w.heap.size w w' → wpList P ops Q rest (a.put o.dst (.slice (some ⟨w.heap.size, 0, none⟩) N cap)) w') :
    wpList P ops Q (o :: rest) a w := by
  subst hN
  exact wpList_append_zeros hgd s x t u ho e i z ht hu hi hz hsize hby hzs b sLen sCap hs olds hlo holds n hx hn1 hn2 hl hg h

end Go.Proofs.Ythplnecnagbedaa
