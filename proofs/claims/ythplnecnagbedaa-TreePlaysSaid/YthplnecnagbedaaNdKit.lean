/- Acts and texts that came in, as they read; among and SameTexts by contract; conditions: none. -/
import Derived.Test.YthplnecnagbedaaNdHalf
import Derived.Test.YthplnecnagbedaaLawKit
namespace Go.Proofs.Ythplnecnagbedaa
open Go.ChangeShapes Go.WideShapes Go.ChangeAt Go.RowKit Go.Deep

structure ActN where
  kind : Int
  key : ByteArray
  val : Int
def actN0 : ActN := ⟨0, emp, 0⟩
instance : Inhabited ActN := ⟨actN0⟩
/-- A slice of acts that came in. -/
def RdA (w : World) (B : Nat) (ao : Option Addr) (A : List ActN) : Prop :=
  ∀ k, k < A.length → ∃ b off, ao = some ⟨b, off, none⟩ ∧ b < B ∧ w.cell? ⟨b, off + k * 3, none⟩ = some (.int .i64 (A.getD k actN0).kind) ∧ w.cell? ⟨b, off + k * 3 + 1, none⟩ = some (.string (A.getD k actN0).key) ∧
    w.cell? ⟨b, off + k * 3 + 2, none⟩ = some (.int .i64 (A.getD k actN0).val)
theorem RdA.below {w w' : World} {B : Nat} {ao : Option Addr} {A : List ActN} (h : RdA w B ao A) (hb : Below B w w') : RdA w' B ao A := fun k hk => by
  obtain ⟨b, off, e, hB, c0, c1, c2⟩ := h k hk
  exact ⟨b, off, e, hB, (hb.cell (p := ⟨b, _, none⟩) hB).trans c0, (hb.cell (p := ⟨b, _, none⟩) hB).trans c1, (hb.cell (p := ⟨b, _, none⟩) hB).trans c2⟩
/-- Texts that came in, or that the call owns. -/
def RdS (w : World) (B : Nat) (ao : Option Addr) (L : List ByteArray) : Prop :=
  ∀ k, k < L.length → ∃ b off, ao = some ⟨b, off, none⟩ ∧ b < B ∧ w.cell? ⟨b, off + k, none⟩ = some (.string (L.getD k emp))
theorem RdS.below {w w' : World} {B : Nat} {ao : Option Addr} {L : List ByteArray} (h : RdS w B ao L) (hb : Below B w w') : RdS w' B ao L := fun k hk => by
  obtain ⟨b, off, e, hB, c⟩ := h k hk
  exact ⟨b, off, e, hB, (hb.cell (p := ⟨b, _, none⟩) hB).trans c⟩
theorem RdS.mono {w : World} {B B' : Nat} {ao : Option Addr} {L : List ByteArray} (h : RdS w B ao L) (hb : B ≤ B') : RdS w B' ao L := fun k hk => by
  obtain ⟨b, off, e, hB, c⟩ := h k hk
  exact ⟨b, off, e, by omega, c⟩
theorem OwnS.rd {w : World} {B : Nat} {ao : Option Addr} {k : Nat} {L : List ByteArray} (h : OwnS B w ao k L) : RdS w w.heap.size ao L := fun j hj => by
  obtain ⟨b, e, _, hb, hc⟩ := own_rd h j (.string (L.getD j emp)) (by simp [List.getD, hj])
  exact ⟨b, 0, e, hb, by rw [Nat.zero_add]; exact hc⟩
theorem OwnS.chg {w w' : World} {B : Nat} {ao : Option Addr} {k : Nat} {L : List ByteArray} {g : Nat} {t : TypeId} {cs : Array Value} (h : OwnS B w ao k L) (hg : Blk w g t cs) (ht : t ≠ 9) (hc : Chg [g] w w') : OwnS B w' ao k L :=
  own_chg h hc (fun q hq hm => by simp at hm; subst hm; exact own_ne h hg (Ne.symm ht) hq.symm)
theorem OwnS.below {w w' : World} {B : Nat} {ao : Option Addr} {k : Nat} {L : List ByteArray} (h : OwnS B w ao k L) (hb : Below w.heap.size w w') : OwnS B w' ao k L := own_chg h (Chg.of_below hb []) (by simp)

section
variable {H : Type} {enc : TypeId × Value → H} {P : Program} {w : World} {spare : Nat → Bool} {held : Bool}
theorem open_nacts {t e : TypeId} {f0 f1 f2 : Field} {ao : Option Addr} {len cap : Nat} {d : DataW H} {p : List MemPlace} (ht : P.underlying t = some (.slice e)) (he : P.underlying e = some (.struct #[f0, f1, f2]))
    (hone : oneCellFields P #[f0, f1, f2] = true) (hC : P.cellsOf e = 3) (h0 : P.underlying f0.type = some (.int .i64)) (h1 : P.underlying f1.type = some .string) (h2 : P.underlying f2.type = some (.int .i64))
    (h : DataW.Trod enc P w 0 spare held t (.slice ao len cap) d p) : len ≤ maxLen ∧ ∃ A : List ActN, A.length = len ∧ RdA w w.heap.size ao A := by
  obtain ⟨hl, hm, hall⟩ := open_rows ht he hone hC (by simp) h
  obtain ⟨F, hF⟩ := choose_lt (α := ActN) (n := len) (p := fun k x => ∃ b off, ao = some ⟨b, off, none⟩ ∧ b < w.heap.size ∧ w.cell? ⟨b, off + k * 3, none⟩ = some (.int .i64 x.kind) ∧ w.cell? ⟨b, off + k * 3 + 1, none⟩ = some (.string x.key) ∧
      w.cell? ⟨b, off + k * 3 + 2, none⟩ = some (.int .i64 x.val)) (fun i hi => by
    obtain ⟨b, off, e1, hb, hfl⟩ := hall i hi
    obtain ⟨v0, n0, y0, c0, t0⟩ := hfl 0 f0 rfl
    obtain ⟨v1, n1, y1, c1, t1⟩ := hfl 1 f1 rfl
    obtain ⟨v2, n2, y2, c2, t2⟩ := hfl 2 f2 rfl
    obtain ⟨x0, q0, _, _⟩ := DataW.trod_int h0 t0
    obtain ⟨x1, q1, rfl, _⟩ := DataW.trod_string h1 t1
    obtain ⟨x2, q2, _, _⟩ := DataW.trod_int h2 t2
    simp only [List.cons.injEq, and_true] at q0 q1 q2
    subst q0 q1 q2
    exact ⟨⟨x0, x1, x2⟩, b, off, e1, hb, c0, c1, c2⟩)
  refine ⟨by omega, (List.range len).map F, by simp, fun k hk => ?_⟩
  have hk' : k < len := by simpa using hk
  have e1 : ((List.range len).map F).getD k actN0 = F k := by simp [List.getD, hk']
  rw [e1]
  exact hF k hk'
end

theorem tmod_mod (x n : Int) : x.tmod n % n = x % n := by
  have h1 := Int.mul_tdiv_add_tmod x n
  have h2 : x % n = (n * x.tdiv n + x.tmod n) % n := by rw [h1]
  rw [h2, Int.mul_add_emod_self_left]
theorem tmod_bd (x n : Int) (h : 0 < n) : -n < x.tmod n ∧ x.tmod n < n := by
  have h1 := Int.tmod_lt_of_pos x h
  have h2 : (-x).tmod n < n := Int.tmod_lt_of_pos (-x) h
  rw [Int.neg_tmod] at h2
  omega
theorem among_any (x n : Int) (w : World) (h1 : 1 ≤ n) (h2 : n ≤ 1000) :
    Calls Try.prog 25 #[.int .i64 x, .int .i64 n] w fun e w' => e = .returned (.int .i64 (x % n)) ∧ w = w' := by
  have hb := tmod_bd x n (by omega)
  obtain ⟨b1, b2⟩ := hb
  have hm := Lib.hid (tmod_mod x n)
  by_cases h0 : 0 ≤ x
  · have b3 := Int.emod_nonneg x (show n ≠ 0 by omega)
    have b4 := Int.emod_lt_of_pos x (show 0 < n by omega)
    go_enter Try.func25, Try.ntmps25
    go_wp2
    go_ret
    exact ⟨ret_int (by rw [Int.add_emod_right]; exact Int.emod_emod_of_dvd x (Int.dvd_refl n)), rfl⟩
  · go_enter Try.func25, Try.ntmps25
    go_wp2
    go_ret
    exact ⟨ret_int hm.out, rfl⟩

/-- The same texts? -/
theorem sameTexts_any (w : World) (a b : Option Addr) (n m ca cb : Nat) (A B : List ByteArray) (hA : A.length = n) (hB : B.length = m) (hl : n ≤ 9223372036854775807 ∧ m ≤ 9223372036854775807) (ra : RdS w w.heap.size a A) (rb : RdS w w.heap.size b B) :
    Calls Try.prog 32 #[.slice a n ca, .slice b m cb] w fun e w' => e = .returned (.bool (decide (A = B))) ∧ ∃ q, w' = w.drewN q := by
  obtain ⟨hl1, hl2⟩ := hl
  by_cases hnm : n = m
  · subst hnm
    have HA := Lib.hid hA
    have HB := Lib.hid hB
    clear hA hB
    have RA := Lib.hid ra
    have RB := Lib.hid rb
    clear ra rb
    go_enter Try.func32, Try.ntmps32
    go_wp2
    go_loopg [5] n (fun gn i wr => ∃ (k : Nat), k ≤ n ∧ i = .int .i64 k ∧ gn = n - k ∧ A.take k = B.take k ∧ ∃ q, wr = w.drewN q)
    case atStart => exact ⟨0, Nat.zero_le _, rfl, rfl, rfl, 0, rfl⟩
    case round =>
      obtain ⟨k, hk, rfl, rfl, htk, q, rfl⟩ := hrel
      by_cases hkn : k < n
      · obtain ⟨ba, oa, rfl, _, c1⟩ := RA.out k (by rw [HA.out]; exact hkn)
        obtain ⟨bb, ob, rfl, _, c2⟩ := RB.out k (by rw [HB.out]; exact hkn)
        have hta : A.take (k + 1) = A.take k ++ [A.getD k emp] := by rw [List.take_succ_eq_append_getElem (by rw [HA.out]; exact hkn)]; simp [List.getD, HA.out, hkn]
        have htb : B.take (k + 1) = B.take k ++ [B.getD k emp] := by rw [List.take_succ_eq_append_getElem (by rw [HB.out]; exact hkn)]; simp [List.getD, HB.out, hkn]
        have HT := Lib.hid htk
        have HTA := Lib.hid hta
        have HTB := Lib.hid htb
        clear htk hta htb
        generalize hx : A.getD k emp = x at c1
        generalize hy : B.getD k emp = y at c2
        have HX := Lib.hid hx
        have HY := Lib.hid hy
        clear hx hy
        by_cases hxy : x = y
        · have HE := Lib.hid hxy
          subst hxy
          go_upto_region 6 with fail
          go_quiet (fail)
          go_wp2_with fail
          go_roundg (n - (k + 1))
          case rel => exact ⟨k + 1, by omega, by go_num, rfl, by rw [HTA.out, HTB.out, HT.out, HX.out, HY.out], _, rfl⟩
          case measure => omega
        · have hd : decide (A = B) = false := by
            refine decide_eq_false fun h => hxy ?_
            rw [← HX.out, ← HY.out, h]
          have hne : (x.toList != y.toList) = true := by simp only [bne_iff_ne]; exact fun h => hxy (ba_ext h)
          have hne2 : (x.toList == y.toList) = false := by simp only [beq_eq_false_iff_ne]; exact fun h => hxy (ba_ext h)
          have HD := Lib.hid hd
          clear hd hxy
          go_upto_region 6 with fail
          go_quiet (fail)
          go_wp2_with fail
          go_ret
          exact ⟨by rw [HD.out]; rfl, _, World.drewN_drewN _ _ _⟩
      · obtain rfl : k = n := by omega
        have hd : decide (A = B) = true := decide_eq_true (by rw [List.take_of_length_le (by rw [HA.out]; exact Nat.le_refl _), List.take_of_length_le (by rw [HB.out]; exact Nat.le_refl _)] at htk; exact htk)
        have HD := Lib.hid hd
        clear hd htk
        go_wp2
        go_ret
        exact ⟨by rw [HD.out]; rfl, _, rfl⟩
  · have hd : decide (A = B) = false := decide_eq_false fun h => hnm (by rw [← hA, ← hB, h])
    have HD := Lib.hid hd
    clear hd hA hB ra rb
    have hne : (((n : Nat) : Int) != ((m : Nat) : Int)) = true := by simp only [bne_iff_ne]; omega
    go_enter Try.func32, Try.ntmps32
    go_wp2
    go_ret
    exact ⟨by rw [HD.out]; rfl, 0, rfl⟩

end Go.Proofs.Ythplnecnagbedaa
