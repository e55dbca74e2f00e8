/- LendInts lends numbers with a mark behind them, KeptInts finds the mark; names; conditions: as the sizes may be. -/
import Derived.Test.YtlcgighhiacnpaaWdCopied
namespace Go.Proofs.Ytlcgighhiacnpaa
open Go.RowKit

def lentL (P : List Int) : List Value := P.map (.int .i64) ++ [.int .i64 (-77)]
theorem RdN.newsW {w W : World} {B : Nat} {ao : Option Addr} {P : List Int} (h : RdN w B ao P) (hb : Below B w W) : ∀ j u, (P.map (Value.int .i64))[j]? = some u → ∃ ad, ao = some ad ∧ W.cell? (ad.add j) = some u := fun j u hj => by
  have hj' : j < P.length := by
    have := (List.getElem?_eq_some_iff.1 hj).1
    simpa using this
  obtain ⟨b, off, e, hB, hc⟩ := h j hj'
  refine ⟨_, e, ?_⟩
  rw [Addr.add_lit, (hb.cell (p := ⟨b, _, none⟩) hB).trans hc, ← hj]
  simp [List.getD, hj']

set_option maxRecDepth 100000 in
set_option maxHeartbeats 4000000 in
theorem lend_any (w : World) (ao : Option Addr) (n cap : Nat) (P : List Int) (hP : P.length = n) (hn : n * 8 ≤ 140737488351232) (hrd : RdN w w.heap.size ao P) :
    Calls Try.prog 10 #[.slice ao n cap] w fun e w' => ∃ g k, e = .returned (.slice (some ⟨g, 0, none⟩) n k) ∧ w'.ownsRow w.heap.size 3 1 (.slice (some ⟨g, 0, none⟩) (n + 1) k) (n + 1) (lentL P) ∧ Below w.heap.size w w' := by
  obtain ⟨i0, hi, hz0, hz1, hz2⟩ := info_parts Try.info3
  have HI := Lib.hid hi
  have HR := Lib.hid hrd
  have HP := Lib.hid hP
  clear hi hrd hP
  have hbl : ∀ W, (Instr.buildSlice 24 0 #[]).run Try.prog W = .ok (.slice (some ⟨W.heap.size, 0, none⟩) 0 0) (W.alloc (.cells #[] 3)) := fun W => by kernel_rfl
  go_enter Try.func10, Try.ntmps10
  go_upto_region 3 with (first
    | (at_builtin; refine wpList_append_to rfl (.tmp 7) (.tmp 8) 24 rfl w.heap.size 3 i0 (.int .i64 0) 1 8 (by kernel_rfl) HI.out hz0 hz1 hz2 rfl (by decide) (.slice a6 n k6) n (P.map (.int .i64)) rfl (own_chg ho5 ((Chg.refl [] w5).alloc _) (by simp)) (some ⟨w5.heap.size, 0, none⟩) 1 1 [.int .i64 (-77)] rfl rfl (news_blk (Blk.new w5 _ _)) (by intro u hu; simp at hu; subst hu; rfl) (n + 1) rfl _ rfl (by unfold maxLen; omega) (by omega) (by simp only [World.size_alloc]; omega) ?_; intro a8 k8 w8 ho8 hg8)
    | (at_builtin; refine wpList_append_to rfl (.tmp 4) (.tmp 5) 24 rfl w.heap.size 3 i0 (.int .i64 0) 1 8 (by kernel_rfl) HI.out hz0 hz1 hz2 rfl (by decide) (.slice (some ⟨w.heap.size, 0, none⟩) 0 0) 0 [] rfl (World.ownsRow_made (size := 1) (e := 3) w #[] 0 (Nat.le_refl _) (Nat.zero_le _) rfl) ao n cap (P.map (.int .i64)) rfl (by rw [List.length_map, HP.out, Nat.mul_one]) (HR.out.newsW ((Below.refl _ w).alloc (Nat.le_refl _) _)) (ints_one P) n (by omega) _ rfl (by unfold maxLen; omega) (by omega) (by simp only [World.size_alloc]; omega) ?_; intro a6 k6 w5 ho5 hg5; have z5 : w.heap.size < w5.heap.size := (by have z := hg5.size; simp only [World.size_alloc] at z; omega); have o5 := own_cap ho5))
  have o8 := own_cap ho8
  obtain ⟨g, e1, _, _, _⟩ := own_rd ho8 n (.int .i64 (-77)) (by rw [List.getElem?_append_right (by simp [HP.out])]; simp [HP.out])
  subst e1
  have hb8 : Below w.heap.size w w8 := below_grown ((below_grown ((Below.refl _ w).alloc (Nat.le_refl _) _) hg5 (by simp only [World.size_alloc]; omega) (fun g hg => by simp [Value.ownBlock] at hg; omega)).alloc (by omega) _) hg8 (by simp only [World.size_alloc]; omega) (fun g hg => (ho5.lt g hg).1)
  have HB := Lib.hid hb8
  have HO := Lib.hid ho8
  have h1 : (0 : Int) ≤ (n : Int) := by omega
  have h2 : (n : Int) ≤ (k8 : Int) := by omega
  have h3 : n ≤ k8 := by omega
  have h4 : (n : Int) ≤ ((n + 1 : Nat) : Int) := by omega
  clear hb8 ho8 ho5 hg5 hg8
  go_wp2_with fail
  go_ret
  exact ⟨g, k8, rfl, HO.out, HB.out⟩

set_option maxRecDepth 100000 in
set_option maxHeartbeats 4000000 in
theorem kept_any (w : World) (B g n k : Nat) (pa : Option Addr) (pn pc : Nat) (P : List Int) (hP : P.length = n) (hpn : P.length = pn) (hn : n ≤ 140737488355328) (ho : w.ownsRow B 3 1 (.slice (some ⟨g, 0, none⟩) (n + 1) k) (n + 1) (lentL P)) (hrd : RdN w w.heap.size pa P) :
    Calls Try.prog 17 #[.slice (some ⟨g, 0, none⟩) n k, .slice pa pn pc] w fun e w' => e = .returned (.bool true) ∧ ∃ q, w' = w.drewN q := by
  obtain ⟨o1, o2⟩ := own_cap ho
  have hnp : pn = n := by omega
  subst hnp
  have hget : ∀ j, j < pn → w.cell? ⟨g, j, none⟩ = some (.int .i64 (P.getD j 0)) := fun j hj => by
    obtain ⟨b, e, _, _, hc⟩ := own_rd ho j (.int .i64 (P.getD j 0)) (by
      unfold lentL
      have hj2 : j < P.length := by omega
      rw [List.getElem?_append_left (by simpa using hj2)]
      simp [List.getD, hj2])
    injection e with e
    injection e with e1
    rw [e1]; exact hc
  have hlast : w.cell? ⟨g, pn, none⟩ = some (.int .i64 (-77)) := by
    obtain ⟨b, e, _, _, hc⟩ := own_rd ho pn (.int .i64 (-77)) (by
      unfold lentL
      rw [List.getElem?_append_right (by simp [hP])]
      simp [hP])
    injection e with e
    injection e with e1
    rw [e1]; exact hc
  have hgl : g < w.heap.size := World.block_lt_of_cell? w _ hlast
  have hra : RdN w w.heap.size (some ⟨g, 0, none⟩) P := fun j hj => ⟨g, 0, rfl, hgl, by rw [Nat.zero_add]; exact hget j (by omega)⟩
  have hs := sameInts_any w (some ⟨g, 0, none⟩) pa pn pn k pc P P hP hpn (by omega) hra hrd
  rw [decide_eq_true rfl] at hs
  have hw1 : IntKind.i64.wrap ((pn : Int) + 1) = ((pn + 1 : Nat) : Int) := by rw [IntKind.wrap_i64]; omega
  have h1 : ((pn + 1 : Nat) : Int) ≤ (k : Int) := by omega
  have h2 : (0 : Int) ≤ ((pn + 1 : Nat) : Int) := by omega
  have h3 : (pn : Int) < ((pn + 1 : Nat) : Int) := by omega
  clear hget hra hrd ho hP hpn
  go_enter Try.func17, Try.ntmps17
  go_wp2_with (go_at_call 30; refine hs.mono ?_; rintro e w5 ⟨rfl, q, rfl⟩)
  go_ret
  exact ⟨rfl, q, rfl⟩
theorem names_any (w : World) : Calls Try.prog 8 #[] w fun e w' => e = .returned (.bool true) ∧ w = w' := by
  go_enter Try.func8, Try.ntmps8
  go_wp2_with fail
  go_ret
  exact ⟨rfl, rfl⟩

end Go.Proofs.Ytlcgighhiacnpaa
