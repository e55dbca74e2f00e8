/- copied makes tasks of its own, LendInts lends numbers with a mark behind them, KeptInts finds the mark; conditions: as the sizes may be. -/
import Derived.Test.YtlcgighhiacnpaaWdOver
namespace Go.Proofs.Ytlcgighhiacnpaa
open Go.RowKit

theorem Try.info43 : (Try.prog.info? 43).map (fun i => (i.zero, i.size, i.bytes)) = some (some (.slice none 0 0), 1, 24) := by kernel_rfl
def cpV (T : List (List Ins)) (V : Nat → Option Addr × Nat) (k : Nat) : List Value := (List.range k).map fun i => Value.slice (V i).1 (T.getD i []).length (V i).2
structure CpAt (B : Nat) (w : World) (v : Value) (T : List (List Ins)) (V : Nat → Option Addr × Nat) (k : Nat) : Prop where
  row : w.ownsRow B 43 1 v k (cpV T V k)
  each : ∀ i, i < k → w.ownsRow B 50 4 (.slice (V i).1 (T.getD i []).length (V i).2) (T.getD i []).length (insFlat (T.getD i []))
theorem CpAt.chg0 {B : Nat} {w w' : World} {v : Value} {T : List (List Ins)} {V : Nat → Option Addr × Nat} {k : Nat} (h : CpAt B w v T V k) (hc : Chg [] w w') : CpAt B w' v T V k :=
  ⟨own_chg h.row hc (by simp), fun i hi => own_chg (h.each i hi) hc (by simp)⟩
theorem CpAt.nil (B : Nat) (w : World) (T : List (List Ins)) (V : Nat → Option Addr × Nat) : CpAt B w (.slice none 0 0) T V 0 := ⟨World.ownsRow_nil _ _ _ _, fun i hi => by omega⟩
theorem cpV_congr {T : List (List Ins)} {V V' : Nat → Option Addr × Nat} {k : Nat} (h : ∀ i, i < k → V i = V' i) : cpV T V k = cpV T V' k :=
  List.map_congr_left fun i hi => by rw [h i (List.mem_range.1 hi)]
theorem CpAt.grown5 {B : Nat} {w w2 : World} {v : Value} {T : List (List Ins)} {V : Nat → Option Addr × Nat} {k : Nat} {n0 c0 : Nat} {o : Obj} (h : CpAt B w v T V k)
    (hg : (w.alloc o).grownBy w2 (Value.ownBlock (.slice (some ⟨w.heap.size, 0, none⟩) n0 c0))) : CpAt B w2 v T V k := by
  have h1 := h.chg0 ((Chg.refl [] w).alloc o)
  have c2 : Chg [w.heap.size] (w.alloc o) w2 := Chg.of_grown hg fun q hq => .inl (by simp [Value.ownBlock] at hq; simp [hq])
  refine ⟨own_chg h1.row c2 fun b hb hm => ?_, fun i hi => own_chg (h1.each i hi) c2 fun b hb hm => ?_⟩
  · have := (h.row.lt b hb).2
    have := List.mem_singleton.1 hm
    omega
  · have := ((h.each i hi).lt b hb).2
    have := List.mem_singleton.1 hm
    omega
/-- One more is appended. -/
theorem CpAt.push {B : Nat} {w2 w3 : World} {v : Value} {T : List (List Ins)} {V : Nat → Option Addr × Nat} {k : Nat} {a6 : Option Addr} {k6 : Nat} {v3 : Value} (h : CpAt B w2 v T V k)
    (ho : w2.ownsRow B 50 4 (.slice a6 (T.getD k []).length k6) (T.getD k []).length (insFlat (T.getD k [])))
    {o : Obj} (hg3 : (w2.alloc o).grownBy w3 v.ownBlock) (ho3 : w3.ownsRow B 43 1 v3 (k + 1) (cpV T V k ++ [.slice a6 (T.getD k []).length k6])) :
    CpAt B w3 v3 T (fun i => if i = k then (a6, k6) else V i) (k + 1) := by
  have ca : Chg [] w2 (w2.alloc o) := (Chg.refl [] w2).alloc o
  have c3 : Chg v.ownBlock.toList (w2.alloc o) w3 := Chg.of_grown hg3 fun b hb => .inl (by simpa using hb)
  have r2a := own_chg h.row ca (by simp)
  have keep : ∀ {vv : Value} {n : Nat} {xs : List Value}, w2.ownsRow B 50 4 vv n xs → w3.ownsRow B 50 4 vv n xs := fun hx => by
    have hxa := own_chg hx ca (by simp)
    exact own_chg hxa c3 fun b hb hm => own_own hxa r2a (by decide) b hb (Option.mem_toList.1 hm)
  refine ⟨?_, fun i hi => ?_⟩
  · have : cpV T (fun i => if i = k then (a6, k6) else V i) (k + 1) = cpV T V k ++ [.slice a6 (T.getD k []).length k6] := by
      have e : cpV T (fun i => if i = k then (a6, k6) else V i) k = cpV T V k := cpV_congr fun i hi => by rw [if_neg (by omega)]
      rw [← e]
      simp [cpV, List.range_succ]
    rw [this]; exact ho3
  · by_cases hik : i = k
    · subst hik; simp only [if_true]; exact keep ho
    · simp only [if_neg hik]; exact keep (h.each i (by omega))
theorem CpAt.rdT {B : Nat} {w : World} {ao : Option Addr} {n cap : Nat} {T : List (List Ins)} {V : Nat → Option Addr × Nat} (h : CpAt B w (.slice ao n cap) T V n) (hT : T.length = n) : RdT w w.heap.size ao T := fun t ht => by
  have htn : t < n := by omega
  obtain ⟨b, e, _, hb, hc⟩ := own_rd h.row t (.slice (V t).1 (T.getD t []).length (V t).2) (by simp [cpV, htn])
  have ho := h.each t (by omega)
  obtain ⟨hk, hm⟩ := own_cap ho
  exact ⟨b, 0, _, _, e, hb, by rw [Nat.zero_add]; exact hc, hk, hm, own_rdI ho⟩

set_option maxRecDepth 100000 in
set_option maxHeartbeats 4000000 in
theorem copied_any (w : World) (ao : Option Addr) (n cap : Nat) (T : List (List Ins)) (hT : T.length = n) (hn : n * 24 ≤ 140737488351232) (hz : ∀ k, k < n → (T.getD k []).length * 32 ≤ 140737488351232) (hrd : RdT w w.heap.size ao T) :
    Calls Try.prog 9 #[.slice ao n cap] w fun e w' => ∃ ao' cap', e = .returned (.slice ao' n cap') ∧ RdT w' w'.heap.size ao' T ∧ n ≤ 9223372036854775807 ∧ Below w.heap.size w w' := by
  obtain ⟨i0, hi, hz0, hz1, hz2⟩ := info_parts Try.info50
  obtain ⟨i1, hi1, hy0, hy1, hy2⟩ := info_parts Try.info43
  have HI := Lib.hid hi
  have HI1 := Lib.hid hi1
  have HR := Lib.hid hrd
  clear hi hi1 hrd
  have HT := Lib.hid hT
  have HZ := Lib.hid hz
  clear hT hz
  have hbl : ∀ W, (Instr.buildSlice 43 0 #[]).run Try.prog W = .ok (.slice (some ⟨W.heap.size, 0, none⟩) 0 0) (W.alloc (.cells #[] 50)) := fun W => by kernel_rfl
  go_enter Try.func9, Try.ntmps9
  go_wp2_with fail
  go_loopg [3, 4] n (fun gn v i wr => ∃ (k : Nat) (av : Option Addr) (cv : Nat) (V : Nat → Option Addr × Nat), k ≤ n ∧ v = .slice av k cv ∧ i = .int .i64 k ∧ gn = n - k ∧ CpAt w.heap.size wr (.slice av k cv) T V k ∧ Below w.heap.size w wr)
  case atStart => exact ⟨0, none, 0, fun _ => (none, 0), Nat.zero_le _, rfl, rfl, rfl, CpAt.nil _ _ _ _, Below.refl _ _⟩
  case round =>
    obtain ⟨k, av, cv, V, hk, rfl, rfl, rfl, hC, hB⟩ := hrel
    by_cases hkn : k < n
    · have hkI : (k : Int) < (n : Int) := by omega
      have hbz := hB.size
      obtain ⟨b, off, a1, ct, rfl, hb, c0, h1, h2, hri⟩ := HR.out k (by rw [HT.out]; exact hkn)
      have c1 := (hB.cell (p := ⟨b, _, none⟩) hb).trans c0
      have hl32 := HZ.out k hkn
      have hri1 : RdI wr w.heap.size a1 (T.getD k []) := hri.below hB
      have HRI := Lib.hid hri1
      have HC := Lib.hid hC
      have HB := Lib.hid hB
      have hbw : b < wr.heap.size := by omega
      clear c0 hri hri1 hC hB
      obtain ⟨l, hl⟩ : ∃ l, l = T.getD k [] := ⟨_, rfl⟩
      rw [← hl] at c1 h1 hl32 HRI
      have HLT := Lib.hid hl
      clear hl
      go_wp2_with (first
        | (at_builtin; refine wpList_append_to rfl (.tmp 11) (.tmp 18) 22 rfl w.heap.size 43 i1 (.slice none 0 0) 1 24 Try.underlying22 HI1.out hy0 hy1 hy2 rfl (by decide) (.slice av k cv) k (cpV T V k) rfl (own_chg (hC5.row) ((Chg.refl [] w5).alloc _) (by simp)) (some ⟨w5.heap.size, 0, none⟩) 1 1 [.slice a6 l.length k6] rfl rfl (news_blk (Blk.new w5 _ _)) (by intro u hu; simp at hu; subst hu; rfl) (k + 1) rfl _ rfl (by unfold maxLen; omega) (by omega) (by simp only [World.size_alloc]; omega) ?_; intro a8 k8 w8 ho8 hg8)
        | (at_builtin; refine wpList_append_to rfl (.tmp 12) (.tmp 16) 43 rfl w.heap.size 50 i0 (.agg #[.int .i64 0, .int .i64 0, .int .i64 0, .int .i64 0]) 4 32 Try.underlying43 HI.out hz0 hz1 hz2 rfl (by decide) (.slice (some ⟨wr.heap.size, 0, none⟩) 0 0) 0 [] rfl (own_mono (World.ownsRow_made (size := 4) (e := 50) wr #[] 0 (Nat.le_refl _) (Nat.zero_le _) rfl) hbz) a1 l.length ct (insFlat l) rfl (insFlat_len l) (HRI.out.news _) (insFlat_one l) l.length (by omega) (insFlat l) rfl (by unfold maxLen; omega) (by omega) (by simp only [World.size_alloc]; omega) ?_; intro a6 k6 w5 ho5 hg5; have z5 : wr.heap.size < w5.heap.size := (by have z := hg5.size; simp only [World.size_alloc] at z; omega); have hC5 : CpAt w.heap.size w5 (.slice av k cv) T V k := HC.out.grown5 hg5))
      have hb8 : Below w.heap.size w w8 := below_grown ((below_grown (HB.out.alloc hbz _) hg5 (by simp only [World.size_alloc]; omega) (fun g hg => by simp [Value.ownBlock] at hg; omega)).alloc (by omega) _) hg8 (by simp only [World.size_alloc]; omega) (fun g hg => (HC.out.row.lt g hg).1)
      have hP := hC5.push (a6 := a6) (k6 := k6) (by rw [← HLT.out]; exact ho5) hg8 (by rw [← HLT.out]; exact ho8)
      go_roundg (n - (k + 1))
      case rel => exact ⟨k + 1, _, _, _, by omega, rfl, by go_num, rfl, hP, hb8⟩
      case measure => omega
    · obtain rfl : n = k := by omega
      have HC := Lib.hid hC
      have HB := Lib.hid hB
      clear hC hB
      go_wp2_with fail
      go_ret
      exact ⟨av, cv, rfl, HC.out.rdT HT.out, by omega, HB.out⟩

end Go.Proofs.Ytlcgighhiacnpaa
