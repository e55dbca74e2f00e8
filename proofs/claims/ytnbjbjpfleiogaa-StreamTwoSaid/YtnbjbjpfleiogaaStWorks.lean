/- among and works of package hopperlaw02, each by its contract; a net of one connection or two; conditions: the modulus is from 1 to 1000. -/
import Derived.Test.YtnbjbjpfleiogaaStDial
namespace Go.Proofs.Ytnbjbjpfleiogaa
open Go.RowKit

theorem tmod_mod (x n : Int) : x.tmod n % n = x % n := by
  have h1 := Int.mul_tdiv_add_tmod x n
  have h2 : x % n = (n * x.tdiv n + x.tmod n) % n := by rw [h1]
  rw [h2, Int.mul_add_emod_self_left]

theorem tmod_bd (x n : Int) (h : 0 < n) : -n < x.tmod n ∧ x.tmod n < n := by
  have h1 := Int.tmod_lt_of_pos x h
  have h2 : (-x).tmod n < n := Int.tmod_lt_of_pos (-x) h
  rw [Int.neg_tmod] at h2
  omega

theorem among_any (x n : Int) (w : World) (h1 : 1 ≤ n) (h2 : n ≤ 1000) :
    Calls Try.prog 11 #[.int .i64 x, .int .i64 n] w fun e w' => e = .returned (.int .i64 (x % n)) ∧ w = w' := by
  have hb := tmod_bd x n (by omega)
  obtain ⟨b1, b2⟩ := hb
  have hm := Lib.hid (tmod_mod x n)
  by_cases h0 : 0 ≤ x
  · have b3 := Int.emod_nonneg x (show n ≠ 0 by omega)
    have b4 := Int.emod_lt_of_pos x (show 0 < n by omega)
    go_enter Try.func11, Try.ntmps11
    go_wp2
    go_ret
    exact ⟨ret_int (by rw [Int.add_emod_right]; exact Int.emod_emod_of_dvd x (Int.dvd_refl n)), rfl⟩
  · go_enter Try.func11, Try.ntmps11
    go_wp2
    go_ret
    exact ⟨ret_int hm.out, rfl⟩


theorem netOk_nil : NetOk [] 0 := ⟨rfl, by omega, fun q => by simp [List.getD]; exact fits_0⟩
theorem netOk_dial {ps : List Pipe} {n : Nat} (h : NetOk ps n) (hn : n < 64) : NetOk (ps ++ [pipe0, pipe0]) (n + 1) := by
  refine ⟨by have := h.len; simp; omega, by omega, fun q => ?_⟩
  by_cases hq : q < ps.length
  · have := h.fit q
    simp only [List.getD, List.getElem?_append_left hq] at this ⊢
    exact this
  · have h1 : (ps ++ [pipe0, pipe0]).getD q pipe0 = pipe0 := by
      simp only [List.getD, List.getElem?_append_right (Nat.le_of_not_lt hq)]
      rcases q - ps.length with _ | _ | r <;> rfl
    rw [h1]; exact fits_0
theorem netOk_two {p q : Pipe} (hp : Fits p) (hq : Fits q) : NetOk [p, q] 1 := ⟨rfl, by omega, fun j => by
  rcases j with _ | _ | j
  · exact hp
  · exact hq
  · exact fits_0⟩

/-- A net of the call's own: it and its row lie from block B on; below B nothing has changed since w0. -/
structure NetIn (B : Nat) (w0 w : World) (nb : Nat) (v : Value) (ps : List Pipe) (n : Nat) : Prop where
  I : IsNet w nb v ps n
  bel : Below B w0 w
  bn : B ≤ nb
  bv : ∀ g, v.ownBlock = some g → B ≤ g
section
variable {B : Nat} {w0 w w' : World} {nb n n' : Nat} {v v' : Value} {ps ps' : List Pipe} {l : List Nat}
theorem NetIn.size (h : NetIn B w0 w nb v ps n) : B ≤ w.heap.size := by have := h.I.net.lt; have := h.bn; omega
theorem NetIn.op (h : NetIn B w0 w nb v ps n) (hI : IsNet w' nb v ps' n) (hc : Chg v.ownBlock.toList w w') : NetIn B w0 w' nb v ps' n :=
  { h with I := hI, bel := below_chg h.bel hc h.size (fun q hq => h.bv q (by simpa using hq)) }
theorem NetIn.dial (h : NetIn B w0 w nb v ps n) (hI : IsNet w' nb v' ps' n') (hc : Chg (nb :: v.ownBlock.toList) w w') (hm : ∀ g, v'.ownBlock = some g → v.ownBlock = some g ∨ w.heap.size ≤ g) : NetIn B w0 w' nb v' ps' n' :=
  { h with I := hI, bel := below_chg h.bel hc h.size (fun q hq => by simp only [List.mem_cons, Option.mem_toList] at hq; rcases hq with rfl | hq; exact h.bn; exact h.bv q hq),
           bv := fun g hg => by rcases hm g hg with h1 | h1; exact h.bv g h1; have := h.size; omega }
theorem NetIn.far (h : NetIn B w0 w nb v ps n) (hc : Chg l w w') (h1 : nb ∉ l) (h2 : ∀ g, v.ownBlock = some g → g ∉ l) (h3 : ∀ q ∈ l, B ≤ q) : NetIn B w0 w' nb v ps n :=
  { h with I := h.I.chg hc h1 h2, bel := below_chg h.bel hc h.size h3 }
theorem NetIn.quiet (h : NetIn B w0 w nb v ps n) (hb : Below w.heap.size w w') : NetIn B w0 w' nb v ps n := h.far (Chg.of_below hb []) (by simp) (fun _ _ => by simp) (by simp)
end

def WORKS : ByteArray := ⟨#[97, 98, 99]⟩
def W1 : Pipe := wrP pipe0 WORKS
def W2 : Pipe := arP W1 2
def W3 : Pipe := rdP W2 1

set_option maxRecDepth 100000 in
set_option maxHeartbeats 2000000 in
theorem lawWorks_any (w : World) : Calls Try.prog 9 #[] w fun e w' => e = .returned (.bool true) ∧ Below w.heap.size w w' := by
  have hN := new_any w
  have hD := fun W v h => dial_room W w.heap.size 0 v [] h (by omega)
  have k1 := netOk_two fits_0 fits_0
  have k2 : NetOk [pipe0, W1] 1 := netOk_two fits_0 (fits_wr fits_0 _)
  have k3 : NetOk [pipe0, W2] 1 := netOk_two fits_0 (fits_ar (fits_wr fits_0 _) _)
  have hWr : ∀ W v, IsNet W w.heap.size v [pipe0, pipe0] 1 → Calls Try.prog 12 #[.pointer (some ⟨w.heap.size, 0, none⟩), .int .i64 0, .int .i64 0, .string WORKS] W (OpE w.heap.size v [pipe0, pipe0] 1 1 W1 (.int .i64 0) W) :=
    fun W v h => write_good W w.heap.size 1 v _ h k1 0 0 (by omega) (by omega) WORKS (by decide)
  have hAr : ∀ W v, IsNet W w.heap.size v [pipe0, W1] 1 → Calls Try.prog 13 #[.pointer (some ⟨w.heap.size, 0, none⟩), .int .i64 0, .int .i64 1, .int .i64 2] W (OpE w.heap.size v [pipe0, W1] 1 1 W2 (.tuple #[.int .i64 2, .int .i64 0]) W) :=
    fun W v h => arrive_good W w.heap.size 1 v _ h k2 0 1 (by omega) (by omega) 2 (by omega)
  have hRd : ∀ W v, IsNet W w.heap.size v [pipe0, W2] 1 → Calls Try.prog 14 #[.pointer (some ⟨w.heap.size, 0, none⟩), .int .i64 0, .int .i64 1, .int .i64 1] W (OpE w.heap.size v [pipe0, W2] 1 1 W3 (.tuple #[.string ⟨#[97]⟩, .int .i64 0]) W) :=
    fun W v h => read_good W w.heap.size 1 v _ h k3 0 1 (by omega) (by omega) 1 (by omega)
  unfold WORKS at hWr
  clear k1 k2 k3
  go_enter Try.func9, Try.ntmps9
  go_wp2_with (first
    | (go_at_call 8; refine hN.mono ?_; rintro e w1 ⟨rfl, h1, b1⟩)
    | (go_at_call 10; refine (hD _ _ h1).mono ?_; rintro e w2 ⟨rfl, v2, h2, c2, m2⟩)
    | (go_at_call 12; refine (hWr _ _ h2).mono ?_; rintro e w3 ⟨rfl, h3, c3⟩)
    | (go_at_call 13; refine (hAr _ _ h3).mono ?_; rintro e w4 ⟨rfl, h4, c4⟩)
    | (go_at_call 14; refine (hRd _ _ h4).mono ?_; rintro e w5 ⟨rfl, h5, c5⟩))
  go_ret
  have N1 : NetIn w.heap.size w w1 w.heap.size (.slice none 0 0) [] 0 := ⟨h1, b1, Nat.le_refl _, fun g hg => by cases hg⟩
  have N2 := N1.dial h2 c2 m2
  exact ⟨rfl, (((N2.op h3 c3).op h4 c4).op h5 c5).bel⟩

end Go.Proofs.Ytnbjbjpfleiogaa
