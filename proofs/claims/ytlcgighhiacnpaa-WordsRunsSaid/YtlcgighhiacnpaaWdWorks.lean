/- works and WordsChecks: the fixed example comes to what the chapter says; conditions: none. -/
import Derived.Test.YtlcgighhiacnpaaWdRun
namespace Go.Proofs.Ytlcgighhiacnpaa
open Go.RowKit

theorem own_cells {w : World} {B : Nat} {e : TypeId} {z n : Nat} {v : Value} {xs : List Value} (h : w.ownsRow B e z v n xs) (hn : 0 < n) : ∃ g cap, v = .slice (some ⟨g, 0, none⟩) n cap ∧ n ≤ cap ∧ B ≤ g ∧ g < w.heap.size ∧ (∀ j x, xs[j]? = some x → w.cell? ⟨g, j, none⟩ = some x) ∧ ∀ k, w.frozen? ⟨g, k, none⟩ = false := by
  rcases h.2 with ⟨_, h0⟩ | ⟨g, cap, cur, rfl, hB, hg, h3, h4, h5, h6⟩
  · omega
  · have hg' : Blk w g e cur := hg
    refine ⟨g, cap, rfl, h3, hB, hg'.lt, fun j x hx => hg'.at j ?_, hg'.free⟩
    rw [← h6, List.getElem?_take] at hx
    split at hx
    · simpa using hx
    · cases hx
def exI : List Ins := [⟨4, 0, 0, 0⟩, ⟨3, 1, 0, 1⟩, ⟨6, 0, 1, 0⟩]
def exCells : Array Value := #[.int .i64 4, .int .i64 0, .int .i64 0, .int .i64 0, .int .i64 3, .int .i64 1, .int .i64 0, .int .i64 1, .int .i64 6, .int .i64 0, .int .i64 1, .int .i64 0]
theorem ex_run : runM [exI, exI] [0] [0, 1, 0, 1] = (⟨[1], [[1, 1, 0, 0, 0, 0, 0, 0], [0, 1, 0, 0, 0, 0, 0, 0]], [true, true], 4⟩, 0) := by kernel_rfl
theorem ex_rdI {w : World} {B b : Nat} (h : Blk w b 50 exCells) (hb : b < B) : RdI w B (some ⟨b, 0, none⟩) exI := by
  intro k hk
  have : k = 0 ∨ k = 1 ∨ k = 2 := by simp [exI] at hk; omega
  rcases this with rfl | rfl | rfl
  · exact ⟨b, 0, rfl, hb, h.at 0 rfl, h.at 1 rfl, h.at 2 rfl, h.at 3 rfl⟩
  · exact ⟨b, 0, rfl, hb, h.at 4 rfl, h.at 5 rfl, h.at 6 rfl, h.at 7 rfl⟩
  · exact ⟨b, 0, rfl, hb, h.at 8 rfl, h.at 9 rfl, h.at 10 rfl, h.at 11 rfl⟩

set_option maxRecDepth 100000 in
theorem works_any (w : World) : Calls Try.prog 18 #[] w fun e w' => e = .returned (.bool true) ∧ Below w.heap.size w w' := by
  have hrun : Calls Try.prog 13 #[.slice (some ⟨w.heap.size + 1, 0, none⟩) 2 2, .slice (some ⟨w.heap.size + 2, 0, none⟩) 1 1, .slice (some ⟨w.heap.size + 3, 0, none⟩) 4 4] ((((w.alloc (.cells exCells 50)).alloc (.cells #[.slice (some ⟨w.heap.size, 0, none⟩) 3 3, .slice (some ⟨w.heap.size, 0, none⟩) 3 3] 43)).alloc (.cells #[.int .u64 0] 38)).alloc (.cells #[.int .i64 0, .int .i64 1, .int .i64 0, .int .i64 1] 3))
      fun e w' => ∃ cv rv dv, e = .returned (.tuple #[.agg #[cv, rv, dv, .int .i64 4], .int .i64 0]) ∧ RepAt (w.heap.size + 4) w' cv rv dv ⟨[1], [[1, 1, 0, 0, 0, 0, 0, 0], [0, 1, 0, 0, 0, 0, 0, 0]], [true, true], 4⟩ ∧ Below w.heap.size w w' := by
    have b0 := (Below.refl w.heap.size w).alloc (Nat.le_refl _) (.cells exCells 50)
    have k0 : Blk (w.alloc (.cells exCells 50)) w.heap.size 50 exCells := Blk.new _ _ _
    have s0 : (w.alloc (.cells exCells 50)).heap.size = w.heap.size + 1 := by simp
    generalize w.alloc (.cells exCells 50) = W0 at b0 k0 s0 ⊢
    have b1 := b0.alloc (by omega) (.cells #[.slice (some ⟨w.heap.size, 0, none⟩) 3 3, .slice (some ⟨w.heap.size, 0, none⟩) 3 3] 43)
    have k1 := k0.alloc (.cells #[.slice (some ⟨w.heap.size, 0, none⟩) 3 3, .slice (some ⟨w.heap.size, 0, none⟩) 3 3] 43)
    have l1 : Blk (W0.alloc (.cells #[.slice (some ⟨w.heap.size, 0, none⟩) 3 3, .slice (some ⟨w.heap.size, 0, none⟩) 3 3] 43)) (w.heap.size + 1) _ _ := Blk.new' _ _ _ s0.symm
    have s1 : (W0.alloc (.cells #[.slice (some ⟨w.heap.size, 0, none⟩) 3 3, .slice (some ⟨w.heap.size, 0, none⟩) 3 3] 43)).heap.size = w.heap.size + 2 := by simp [s0]
    generalize W0.alloc (.cells #[.slice (some ⟨w.heap.size, 0, none⟩) 3 3, .slice (some ⟨w.heap.size, 0, none⟩) 3 3] 43) = W1 at b1 k1 l1 s1 ⊢
    have b2 := b1.alloc (by omega) (.cells #[.int .u64 0] 38)
    have k2 := k1.alloc (.cells #[.int .u64 0] 38)
    have l2 := l1.alloc (.cells #[.int .u64 0] 38)
    have m2 : Blk (W1.alloc (.cells #[.int .u64 0] 38)) (w.heap.size + 2) _ _ := Blk.new' _ _ _ s1.symm
    have s2 : (W1.alloc (.cells #[.int .u64 0] 38)).heap.size = w.heap.size + 3 := by simp [s1]
    generalize W1.alloc (.cells #[.int .u64 0] 38) = W2 at b2 k2 l2 m2 s2 ⊢
    have b3 := b2.alloc (by omega) (.cells #[.int .i64 0, .int .i64 1, .int .i64 0, .int .i64 1] 3)
    have k3 := k2.alloc (.cells #[.int .i64 0, .int .i64 1, .int .i64 0, .int .i64 1] 3)
    have l3 := l2.alloc (.cells #[.int .i64 0, .int .i64 1, .int .i64 0, .int .i64 1] 3)
    have m3 := m2.alloc (.cells #[.int .i64 0, .int .i64 1, .int .i64 0, .int .i64 1] 3)
    have n3 : Blk (W2.alloc (.cells #[.int .i64 0, .int .i64 1, .int .i64 0, .int .i64 1] 3)) (w.heap.size + 3) _ _ := Blk.new' _ _ _ s2.symm
    have s3 : (W2.alloc (.cells #[.int .i64 0, .int .i64 1, .int .i64 0, .int .i64 1] 3)).heap.size = w.heap.size + 4 := by simp [s2]
    generalize W2.alloc (.cells #[.int .i64 0, .int .i64 1, .int .i64 0, .int .i64 1] 3) = W3 at b3 k3 l3 m3 n3 s3 ⊢
    have hri : RdI W3 W3.heap.size (some ⟨w.heap.size, 0, none⟩) exI := ex_rdI k3 (by omega)
    have := run_any W3 (some ⟨w.heap.size + 1, 0, none⟩) (some ⟨w.heap.size + 2, 0, none⟩) (some ⟨w.heap.size + 3, 0, none⟩) 2 2 1 1 4 4 [exI, exI] [0] [0, 1, 0, 1] rfl rfl rfl ⟨by omega, by omega, by omega⟩
      (fun t ht => by
        have : t = 0 ∨ t = 1 := by simp at ht; omega
        rcases this with rfl | rfl
        · exact ⟨w.heap.size + 1, 0, _, 3, rfl, by omega, l3.at 0 rfl, Nat.le_refl _, by omega, hri⟩
        · exact ⟨w.heap.size + 1, 0, _, 3, rfl, by omega, l3.at 1 rfl, Nat.le_refl _, by omega, hri⟩)
      (fun t ht => by
        have : t = 0 := by simp at ht; omega
        subst this
        exact ⟨w.heap.size + 2, 0, rfl, by omega, m3.at 0 rfl, by decide⟩)
      (fun t ht => by
        have : t = 0 ∨ t = 1 ∨ t = 2 ∨ t = 3 := by simp at ht; omega
        rcases this with rfl | rfl | rfl | rfl
        · exact ⟨w.heap.size + 3, 0, rfl, by omega, n3.at 0 rfl⟩
        · exact ⟨w.heap.size + 3, 0, rfl, by omega, n3.at 1 rfl⟩
        · exact ⟨w.heap.size + 3, 0, rfl, by omega, n3.at 2 rfl⟩
        · exact ⟨w.heap.size + 3, 0, rfl, by omega, n3.at 3 rfl⟩)
    refine this.mono fun e w' ⟨cv, rv, dv, h1, h2, h3⟩ => ?_
    rw [ex_run] at h1 h2
    rw [s3] at h2 h3
    exact ⟨cv, rv, dv, h1, h2, b3.trans (h3.mono (by omega))⟩
  unfold exCells at hrun
  go_enter Try.func18, Try.ntmps18
  go_wp2_with (go_at_call 13; refine hrun.mono ?_; rintro e w2 ⟨cv, rv, dv, rfl, hr, hb⟩; obtain ⟨gc, cc, rfl, hcc, hgc, hlc, cC, _⟩ := own_cells hr.cells.1 (by decide); obtain ⟨gr, cr, rfl, hcr, hgr, hlr, cR, _⟩ := own_cells hr.regs (by decide); obtain ⟨gd, cd, rfl, _⟩ := own_cells hr.done (by decide); have c0 := Lib.cell?_alloc_some (.cells #[.slice (some ⟨gc, 0, none⟩) 1 cc, .slice (some ⟨gr, 0, none⟩) 2 cr, .slice (some ⟨gd, 0, none⟩) 2 cd, .int .i64 4] 34) (cC 0 _ rfl); have c1 := Lib.cell?_alloc_some (.cells #[.slice (some ⟨gc, 0, none⟩) 1 cc, .slice (some ⟨gr, 0, none⟩) 2 cr, .slice (some ⟨gd, 0, none⟩) 2 cd, .int .i64 4] 34) (cR 0 _ rfl); have c2 := Lib.cell?_alloc_some (.cells #[.slice (some ⟨gc, 0, none⟩) 1 cc, .slice (some ⟨gr, 0, none⟩) 2 cr, .slice (some ⟨gd, 0, none⟩) 2 cd, .int .i64 4] 34) (cR 8 _ rfl))
  go_ret
  exact ⟨rfl, hb.alloc hb.size _⟩

set_option maxRecDepth 100000 in
theorem wordsChecks_any (w : World) (ao : Option Addr) (len cap : Nat) (T : List (List Ins)) (hT : T.length = len) (hl : len ≤ 9223372036854775807) (hrd : RdT w w.heap.size ao T) (c : Int) (_hc : (Lit.int .i64 c).wf = true) :
    Calls Try.prog 4 #[.slice ao len cap, .int .i64 c] w fun e w' => e = .returned (.bool true) ∧ Below w.heap.size w w' := by
  have h1 := check_any w ao len cap T hT hl hrd c
  have h2 := fun W (hb : Below w.heap.size w W) => rcheck_any W ao len cap T hT hl ((hrd.below hb).mono hb.size) c
  unfold tup3 at h1 h2
  obtain ⟨a, b, d⟩ := chk T c
  have hw := works_any
  clear hrd
  go_enter Try.func4, Try.ntmps4
  go_wp2_with (first
    | (go_at_call 18; refine (hw _).mono ?_; rintro e w4 ⟨rfl, b4⟩)
    | (go_at_call 12; refine (h2 _ b2).mono ?_; rintro e w3 ⟨rfl, b3⟩)
    | (go_at_call 11; refine h1.mono ?_; rintro e w2 ⟨rfl, b2⟩))
  go_ret
  exact ⟨rfl, b2.trans ((b3.mono b2.size).trans (b4.mono (Nat.le_trans b2.size b3.size)))⟩

end Go.Proofs.Ytlcgighhiacnpaa
