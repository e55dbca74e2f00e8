/- The law StreamApart walked: for every list of pieces it returns true and leaves all that was there as it was; conditions: none but that the list's length is a slice's. -/
import Derived.Test.YtnbjbjpfleiogaaStPieces
import Derived.BigRegion
import Derived.Deep.RegionWith
namespace Go.Proofs.Ytnbjbjpfleiogaa
open Go.RowKit

theorem netOk_four {p q r u : Pipe} (hp : Fits p) (hq : Fits q) (hr : Fits r) (hu : Fits u) : NetOk [p, q, r, u] 2 := ⟨rfl, by omega, fun j => by
  rcases j with _ | _ | _ | _ | j
  · exact hp
  · exact hq
  · exact hr
  · exact hu
  · exact fits_0⟩

/-- A new net, wherever it lies. -/
def NewE (W : World) (e : Ending) (w' : World) : Prop := ∃ nb, e = .returned (.pointer (some ⟨nb, 0, none⟩)) ∧ IsNet w' nb (.slice none 0 0) [] 0 ∧ W.heap.size ≤ nb ∧ Below W.heap.size W w'
theorem new_ex (W : World) : Calls Try.prog 8 #[] W (NewE W) := (new_any W).mono fun e w' ⟨h1, h2, h3⟩ => ⟨_, h1, h2, Nat.le_refl _, h3⟩

/-- Two nets, apart. -/
structure Pr (B : Nat) (w0 w : World) (na nb : Nat) (va vb : Value) (pa pb : List Pipe) (n m : Nat) : Prop where
  NA : NetIn B w0 w na va pa n
  NB : NetIn B w0 w nb vb pb m
  ne : na ≠ nb
  ap : ∀ g, va.ownBlock = some g → vb.ownBlock ≠ some g
section
variable {B : Nat} {w0 w w' : World} {na nb n m n' : Nat} {va vb v' : Value} {pa pb ps' : List Pipe} {l : List Nat}
theorem NetIn.out {n g : Nat} {v : Value} {ps : List Pipe} {t : TypeId} {cs : Array Value} (h : NetIn B w0 w nb v ps n) (hb : Blk w g t cs) (ht : 56 ≠ t) : g ∉ v.ownBlock.toList :=
  fun hm => own_ne h.I.row hb ht (Option.mem_toList.1 hm).symm
theorem NetIn.stay {n : Nat} {v : Value} {ps : List Pipe} (h : NetIn B w0 w nb v ps n) (hc : Chg l w w') (hb : Below B w0 w') (h1 : nb ∉ l) (h2 : ∀ g, v.ownBlock = some g → g ∉ l) : NetIn B w0 w' nb v ps n :=
  { h with I := h.I.chg hc h1 h2, bel := hb }
theorem Pr.quiet (h : Pr B w0 w na nb va vb pa pb n m) (hb : Below w.heap.size w w') : Pr B w0 w' na nb va vb pa pb n m := { h with NA := h.NA.quiet hb, NB := h.NB.quiet hb }
theorem Pr.swap (h : Pr B w0 w na nb va vb pa pb n m) : Pr B w0 w nb na vb va pb pa m n := ⟨h.NB, h.NA, h.ne.symm, fun g hg hx => h.ap g hx hg⟩
theorem Pr.dialA (h : Pr B w0 w na nb va vb pa pb n m) (hI : IsNet w' na v' ps' n') (hc : Chg (na :: va.ownBlock.toList) w w') (hm : ∀ g, v'.ownBlock = some g → va.ownBlock = some g ∨ w.heap.size ≤ g) : Pr B w0 w' na nb v' vb ps' pb n' m := by
  have hA := h.NA.dial hI hc hm
  refine { h with NA := hA, NB := h.NB.stay hc hA.bel ?_ (fun g hg hx => ?_), ap := fun g hg hx => ?_ }
  · intro hx
    rcases List.mem_cons.1 hx with e | e
    · exact h.ne e.symm
    · exact h.NA.out h.NB.I.net (by decide) e
  · rcases List.mem_cons.1 hx with e | e
    · exact own_ne h.NB.I.row h.NA.I.net (by decide) (by rw [hg, e])
    · exact h.ap g (Option.mem_toList.1 e) hg
  · rcases hm g hg with e | e
    · exact h.ap g e hx
    · have := (h.NB.I.row.lt g hx).2; omega
end

/-- Two nets, apart, and the round's piece. -/
structure Pt (B : Nat) (w0 w : World) (na nb : Nat) (va vb : Value) (pa pb : List Pipe) (be : Nat) (ae : Array Value) : Prop where
  NA : NetIn B w0 w na va pa 2
  NB : NetIn B w0 w nb vb pb 1
  E : Blk w be 30 ae
  ne : na ≠ nb
  ap : ∀ g, va.ownBlock = some g → vb.ownBlock ≠ some g
section
variable {B : Nat} {w0 w w' : World} {na nb : Nat} {va vb : Value} {pa pb ps' : List Pipe} {be : Nat} {ae : Array Value} {l : List Nat}
theorem Pt.opA (h : Pt B w0 w na nb va vb pa pb be ae) (hI : IsNet w' na va ps' 2) (hc : Chg va.ownBlock.toList w w') : Pt B w0 w' na nb va vb ps' pb be ae := by
  have hA := h.NA.op hI hc
  exact { h with NA := hA, NB := h.NB.stay hc hA.bel (h.NA.out h.NB.I.net (by decide)) (fun g hg hm => h.ap g (Option.mem_toList.1 hm) hg), E := h.E.chg hc (h.NA.out h.E (by decide)) }
theorem Pt.opB (h : Pt B w0 w na nb va vb pa pb be ae) (hI : IsNet w' nb vb ps' 1) (hc : Chg vb.ownBlock.toList w w') : Pt B w0 w' na nb va vb pa ps' be ae := by
  have hB := h.NB.op hI hc
  exact { h with NB := hB, NA := h.NA.stay hc hB.bel (h.NB.out h.NA.I.net (by decide)) (fun g hg hm => h.ap g hg (Option.mem_toList.1 hm)), E := h.E.chg hc (h.NB.out h.E (by decide)) }
theorem Pt.quiet (h : Pt B w0 w na nb va vb pa pb be ae) (hb : Below w.heap.size w w') : Pt B w0 w' na nb va vb pa pb be ae :=
  { h with NA := h.NA.quiet hb, NB := h.NB.quiet hb, E := h.E.below hb h.E.lt }
end

set_option maxRecDepth 100000 in
set_option maxHeartbeats 8000000 in
theorem streamApart_any (w : World) (ao : Option Addr) (len cap : Nat) (A : List Piece) (hA : A.length = len) (hl : len ≤ 9223372036854775807) (hrd : RdP w w.heap.size ao A) :
    Calls Try.prog 3 #[.slice ao len cap] w fun e w' => e = .returned (.bool true) ∧ Below w.heap.size w w' := by
  have hN := fun W => new_ex W
  have hW := fun W => lawWorks_any W
  have HA := Lib.hid hA
  clear hA
  go_enter Try.func3, Try.ntmps3
  go_wp2_with (first
    | (go_at_call 8; refine (hN w1).mono ?_; rintro e w2 ⟨nb, rfl, h2, z2, b2⟩)
    | (go_at_call 8; refine (hN _).mono ?_; rintro e w1 ⟨na, rfl, h1, z1, b1⟩)
    | (go_at_call 9; refine (hW _).mono ?_; rintro e w3 ⟨rfl, b3⟩; have s1 := b1.size; have P3 := (Pr.quiet ⟨NetIn.quiet ⟨h1, b1, z1, (fun g hg => by cases hg)⟩ b2, ⟨h2, b1.trans (b2.mono s1), by omega, (fun g hg => by cases hg)⟩, Nat.ne_of_lt (Nat.lt_of_lt_of_le h1.net.lt z2), (fun g hg => by cases hg)⟩ b3 : Pr w.heap.size w w3 na nb (.slice none 0 0) (.slice none 0 0) [] [] 0 0))
    | (go_at_call 10; refine (dial_room w5 nb 0 _ _ P5.NB.I (by omega)).mono ?_; rintro e w6 ⟨rfl, vb, h6, c6, m6⟩; have P6 := (P5.swap.dialA h6 c6 m6).swap)
    | (go_at_call 10; refine (dial_room w4 na 1 va1 _ P4.NA.I (by omega)).mono ?_; rintro e w5 ⟨rfl, va, h5, c5, m5⟩; have P5 := P4.dialA h5 c5 m5)
    | (go_at_call 10; refine (dial_room w3 na 0 _ _ P3.NA.I (by omega)).mono ?_; rintro e w4 ⟨rfl, va1, h4, c4, m4⟩; have P4 := P3.dialA h4 c4 m4))
  clear hN hW h1 b1 z1 h2 z2 b2 b3 s1 P3 h4 c4 m4 P4 h5 c5 m5 P5 h6 c6 m6
  go_loopg [5] 60 (fun gn i wr => ∃ (j : Nat) (p q r u : Pipe), j ≤ len ∧ j ≤ 60 ∧ i = .int .i64 j ∧ gn = 60 - j ∧ Pr w.heap.size w wr na nb va vb [p, q, r, u] [p, q] 2 1 ∧ Fits p ∧ Fits q ∧ Fits r ∧ Fits u)
  case atStart => exact ⟨0, _, _, _, _, Nat.zero_le _, Nat.zero_le _, rfl, rfl, P6, fits_0, fits_0, fits_0, fits_0⟩
  case round =>
    obtain ⟨j, p, q, r, u, hj1, hj2, rfl, rfl, hP, fp, fq, fr, fu⟩ := hrel
    by_cases h100 : j < 60
    · by_cases hlen : j < len
      · have hjA : j < A.length := by rw [HA.out]; exact hlen
        have hrj := (hrd.below hP.NA.bel) j hjA
        generalize A.getD j piece0 = pc at hrj
        obtain ⟨sd, d, cm, tk⟩ := pc
        dsimp only at hrj
        obtain ⟨b, off, rfl, hbB, r1, r2, r3, r4, hsz⟩ := hrj
        clear hjA
        have hal := (Below.refl wr.heap.size wr).alloc (Nat.le_refl _) (.cells #[.int .i64 sd, .string d, .int .i64 cm, .int .i64 tk] 30)
        have hPo := hP.quiet hal
        have S0 : Pt w.heap.size w (wr.alloc (.cells #[.int .i64 sd, .string d, .int .i64 cm, .int .i64 tk] 30)) na nb va vb [p, q, r, u] [p, q] wr.heap.size #[.int .i64 sd, .string d, .int .i64 cm, .int .i64 tk] :=
          ⟨hPo.NA, hPo.NB, Blk.new _ _ _, hPo.ne, hPo.ap⟩
        have o0 := S0.E.at 0 rfl
        have o1 := S0.E.at 1 rfl
        obtain ⟨m, hm⟩ := Int.eq_ofNat_of_zero_le (show 0 ≤ cm % 50 by omega)
        obtain ⟨k, hk⟩ := Int.eq_ofNat_of_zero_le (show 0 ≤ tk % 50 by omega)
        have hm2 : m ≤ 50 := by omega
        have hk2 : k ≤ 50 := by omega
        go_upto_block 1 with fail
        go_cut [7] (fun _ wx => ∃ (p q r u : Pipe), Pr w.heap.size w wx na nb va vb [p, q, r, u] [p, q] 2 1 ∧ Fits p ∧ Fits q ∧ Fits r ∧ Fits u)
        case first =>
          by_cases hd : 1000 < d.size
          · go_wp2_with fail
            go_meet
            exact ⟨p, q, r, u, hPo, fp, fq, fr, fu⟩
          · have hsd2 : sd % 2 = 0 ∨ sd % 2 = 1 := by omega
            rcases hsd2 with hsd | hsd
            · skip
              have hdx : (d ++ ⟨#[120]⟩ : ByteArray).size ≤ 1001 := by rw [ByteArray.size_append]; show d.size + 1 ≤ 1001; omega
              have gZ1 := fits_wr fu (d ++ ⟨#[120]⟩)
              have gZ2 := fits_ar gZ1 3
              have gZ3 := fits_rd gZ2 2
              have gX1 := fits_wr fq d
              have gX2 := fits_ar gX1 m
              have gX3 := fits_rd gX2 k
              have cW1 : ∀ W v, IsNet W na v [p, q, r, u] 2 → Calls Try.prog 12 #[.pointer (some ⟨na, 0, none⟩), .int .i64 1, .int .i64 0, .string (d ++ ⟨#[120]⟩)] W (OpE na v [p, q, r, u] 2 3 (wrP u (d ++ ⟨#[120]⟩)) (.int .i64 (wrE u (d ++ ⟨#[120]⟩))) W) := fun W v h => write_good W na 2 v _ h (netOk_four fp fq fr fu) 1 0 (by omega) (by omega) _ (by omega)
              have cA1 : ∀ W v, IsNet W na v [p, q, r, (wrP u (d ++ ⟨#[120]⟩))] 2 → Calls Try.prog 13 #[.pointer (some ⟨na, 0, none⟩), .int .i64 1, .int .i64 1, .int .i64 3] W (OpE na v [p, q, r, (wrP u (d ++ ⟨#[120]⟩))] 2 3 (arP (wrP u (d ++ ⟨#[120]⟩)) 3) (.tuple #[.int .i64 (arN (wrP u (d ++ ⟨#[120]⟩)) 3), .int .i64 0]) W) := fun W v h => arrive_good W na 2 v _ h (netOk_four fp fq fr gZ1) 1 1 (by omega) (by omega) 3 (by omega)
              have cR1 : ∀ W v, IsNet W na v [p, q, r, (arP (wrP u (d ++ ⟨#[120]⟩)) 3)] 2 → Calls Try.prog 14 #[.pointer (some ⟨na, 0, none⟩), .int .i64 1, .int .i64 1, .int .i64 2] W (OpE na v [p, q, r, (arP (wrP u (d ++ ⟨#[120]⟩)) 3)] 2 3 (rdP (arP (wrP u (d ++ ⟨#[120]⟩)) 3) 2) (.tuple #[.string (rdS (arP (wrP u (d ++ ⟨#[120]⟩)) 3) 2), .int .i64 0]) W) := fun W v h => read_good W na 2 v _ h (netOk_four fp fq fr gZ2) 1 1 (by omega) (by omega) 2 (by omega)
              have cWa : ∀ W v, IsNet W na v [p, q, r, (rdP (arP (wrP u (d ++ ⟨#[120]⟩)) 3) 2)] 2 → Calls Try.prog 12 #[.pointer (some ⟨na, 0, none⟩), .int .i64 0, .int .i64 0, .string d] W (OpE na v [p, q, r, (rdP (arP (wrP u (d ++ ⟨#[120]⟩)) 3) 2)] 2 1 (wrP q d) (.int .i64 (wrE q d)) W) := fun W v h => write_good W na 2 v _ h (netOk_four fp fq fr gZ3) 0 0 (by omega) (by omega) _ (by omega)
              have cWb : ∀ W v, IsNet W nb v [p, q] 1 → Calls Try.prog 12 #[.pointer (some ⟨nb, 0, none⟩), .int .i64 0, .int .i64 0, .string d] W (OpE nb v [p, q] 1 1 (wrP q d) (.int .i64 (wrE q d)) W) := fun W v h => write_good W nb 1 v _ h (netOk_two fp fq) 0 0 (by omega) (by omega) _ (by omega)
              have cAa : ∀ W v, IsNet W na v [p, (wrP q d), r, (rdP (arP (wrP u (d ++ ⟨#[120]⟩)) 3) 2)] 2 → Calls Try.prog 13 #[.pointer (some ⟨na, 0, none⟩), .int .i64 0, .int .i64 1, .int .i64 m] W (OpE na v [p, (wrP q d), r, (rdP (arP (wrP u (d ++ ⟨#[120]⟩)) 3) 2)] 2 1 (arP (wrP q d) m) (.tuple #[.int .i64 (arN (wrP q d) m), .int .i64 0]) W) := fun W v h => arrive_good W na 2 v _ h (netOk_four fp gX1 fr gZ3) 0 1 (by omega) (by omega) m (by omega)
              have cAb : ∀ W v, IsNet W nb v [p, (wrP q d)] 1 → Calls Try.prog 13 #[.pointer (some ⟨nb, 0, none⟩), .int .i64 0, .int .i64 1, .int .i64 m] W (OpE nb v [p, (wrP q d)] 1 1 (arP (wrP q d) m) (.tuple #[.int .i64 (arN (wrP q d) m), .int .i64 0]) W) := fun W v h => arrive_good W nb 1 v _ h (netOk_two fp gX1) 0 1 (by omega) (by omega) m (by omega)
              have cRa : ∀ W v, IsNet W na v [p, (arP (wrP q d) m), r, (rdP (arP (wrP u (d ++ ⟨#[120]⟩)) 3) 2)] 2 → Calls Try.prog 14 #[.pointer (some ⟨na, 0, none⟩), .int .i64 0, .int .i64 1, .int .i64 k] W (OpE na v [p, (arP (wrP q d) m), r, (rdP (arP (wrP u (d ++ ⟨#[120]⟩)) 3) 2)] 2 1 (rdP (arP (wrP q d) m) k) (.tuple #[.string (rdS (arP (wrP q d) m) k), .int .i64 0]) W) := fun W v h => read_good W na 2 v _ h (netOk_four fp gX2 fr gZ3) 0 1 (by omega) (by omega) k (by omega)
              have cRb : ∀ W v, IsNet W nb v [p, (arP (wrP q d) m)] 1 → Calls Try.prog 14 #[.pointer (some ⟨nb, 0, none⟩), .int .i64 0, .int .i64 1, .int .i64 k] W (OpE nb v [p, (arP (wrP q d) m)] 1 1 (rdP (arP (wrP q d) m) k) (.tuple #[.string (rdS (arP (wrP q d) m) k), .int .i64 0]) W) := fun W v h => read_good W nb 1 v _ h (netOk_two fp gX2) 0 1 (by omega) (by omega) k (by omega)
              clear fu gZ1 gZ2 gX1 gX2 hdx
              generalize rdS (arP (wrP q d) m) k = sx at cRa cRb
              generalize rdS (arP (wrP u (d ++ ⟨#[120]⟩)) 3) 2 = sz at cR1
              generalize rdP (arP (wrP q d) m) k = X3 at gX3 cRa cRb
              generalize arP (wrP q d) m = X2 at cAa cAb cRa cRb
              generalize (arN (wrP q d) m : Int) = ka at cAa cAb
              generalize wrP q d = X1 at cWa cWb cAa cAb cRa cRb
              generalize wrE q d = ex at cWa cWb
              generalize rdP (arP (wrP u (d ++ ⟨#[120]⟩)) 3) 2 = Z3 at gZ3 cR1 cWa cAa cRa
              generalize arP (wrP u (d ++ ⟨#[120]⟩)) 3 = Z2 at cA1 cR1
              generalize (arN (wrP u (d ++ ⟨#[120]⟩)) 3 : Int) = kz at cA1
              generalize wrP u (d ++ ⟨#[120]⟩) = Z1 at cW1 cA1 cR1
              generalize wrE u (d ++ ⟨#[120]⟩) = ez at cW1
              rw [← hm] at cAa cAb
              rw [← hk] at cRa cRb
              clear hm hk
              have hA2 := fun W => among_any sd 2 W (by decide) (by decide)
              simp only [hsd] at hA2
              have hA50 := fun x W => among_any x 50 W (by decide) (by decide)
              go_upto_region 16 with (first
                | (go_at_call 11; refine (hA2 _).mono ?_; rintro e w' ⟨rfl, rfl⟩)
                | (go_at_call 12; refine (cW1 _ _ S0.NA.I).mono ?_; rintro e w1 ⟨rfl, i1, c1⟩; have S1 := S0.opA (ps' := [p, q, r, Z1]) i1 c1)
                | (go_at_call 13; refine (cA1 _ _ S1.NA.I).mono ?_; rintro e w2 ⟨rfl, i2, c2⟩; have S2 := S1.opA (ps' := [p, q, r, Z2]) i2 c2)
                | (go_at_call 14; refine (cR1 _ _ S2.NA.I).mono ?_; rintro e w3 ⟨rfl, i3, c3⟩; have S3 := S2.opA (ps' := [p, q, r, Z3]) i3 c3; have y1 := S3.E.at 1 rfl))
              clear hA2
              go_cut [8, 9] (fun e1 e2 wx => ∃ ex : Int, e1 = .int .i64 ex ∧ e2 = .int .i64 ex ∧ Pt w.heap.size w wx na nb va vb [p, X1, r, Z3] [p, X1] wr.heap.size #[.int .i64 sd, .string d, .int .i64 cm, .int .i64 tk])
              case first =>
                have T3 := S3.quiet ((Below.refl _ _).drew)
                go_region_with (first
                  | (go_at_call_of 12 na; refine (cWa _ _ T3.NA.I).mono ?_; rintro e w4 ⟨rfl, i4, c4⟩; have Sa := T3.opA (ps' := [p, X1, r, Z3]) i4 c4; have y2 := Sa.E.at 1 rfl)
                  | (go_at_call_of 12 nb; refine (cWb _ _ Sa.NB.I).mono ?_; rintro e w5 ⟨rfl, i5, c5⟩; have Sz := Sa.opB (ps' := [p, X1]) i5 c5)
                  | (go_at_call_of 12 nb; refine (cWb _ _ T3.NB.I).mono ?_; rintro e w4 ⟨rfl, i4, c4⟩; have Sb := T3.opB (ps' := [p, X1]) i4 c4; have y2 := Sb.E.at 1 rfl)
                  | (go_at_call_of 12 na; refine (cWa _ _ Sb.NA.I).mono ?_; rintro e w5 ⟨rfl, i5, c5⟩; have Sz := Sb.opA (ps' := [p, X1, r, Z3]) i5 c5))
                all_goals
                  go_wp2_with fail
                  go_meet
                  exact ⟨ex, rfl, rfl, Sz⟩
              case rest =>
                obtain ⟨ex', rfl, rfl, S5⟩ := hcut
                have z2 := S5.E.at 2 rfl
                go_wp2_with (first
                  | (go_at_call_of 14 nb; refine (cRb _ _ S8.NB.I).mono ?_; rintro e w9 ⟨rfl, i9, c9⟩; have S9 := S8.opB (ps' := [p, X3]) i9 c9)
                  | (go_at_call_of 14 na; refine (cRa _ _ S7.NA.I).mono ?_; rintro e w8 ⟨rfl, i8, c8⟩; have S8 := S7.opA (ps' := [p, X3, r, Z3]) i8 c8; have z8 := S8.E.at 3 rfl)
                  | (go_at_call_of 13 nb; refine (cAb _ _ S6.NB.I).mono ?_; rintro e w7 ⟨rfl, i7, c7⟩; have S7 := S6.opB (ps' := [p, X2]) i7 c7; have z7 := S7.E.at 3 rfl)
                  | (go_at_call_of 13 na; refine (cAa _ _ S5.NA.I).mono ?_; rintro e w6 ⟨rfl, i6, c6⟩; have S6 := S5.opA (ps' := [p, X2, r, Z3]) i6 c6; have z6 := S6.E.at 2 rfl)
                  | (go_at_call 11; refine (hA50 _ _).mono ?_; rintro e w' ⟨rfl, rfl⟩))
                go_meet
                exact ⟨p, X3, r, Z3, ⟨S9.NA, S9.NB, S9.ne, S9.ap⟩, fp, gX3, fr, gZ3⟩
            · skip
              have hdx : (d ++ ⟨#[120]⟩ : ByteArray).size ≤ 1001 := by rw [ByteArray.size_append]; show d.size + 1 ≤ 1001; omega
              have gZ1 := fits_wr fr (d ++ ⟨#[120]⟩)
              have gZ2 := fits_ar gZ1 3
              have gZ3 := fits_rd gZ2 2
              have gX1 := fits_wr fp d
              have gX2 := fits_ar gX1 m
              have gX3 := fits_rd gX2 k
              have cW1 : ∀ W v, IsNet W na v [p, q, r, u] 2 → Calls Try.prog 12 #[.pointer (some ⟨na, 0, none⟩), .int .i64 1, .int .i64 1, .string (d ++ ⟨#[120]⟩)] W (OpE na v [p, q, r, u] 2 2 (wrP r (d ++ ⟨#[120]⟩)) (.int .i64 (wrE r (d ++ ⟨#[120]⟩))) W) := fun W v h => write_good W na 2 v _ h (netOk_four fp fq fr fu) 1 1 (by omega) (by omega) _ (by omega)
              have cA1 : ∀ W v, IsNet W na v [p, q, (wrP r (d ++ ⟨#[120]⟩)), u] 2 → Calls Try.prog 13 #[.pointer (some ⟨na, 0, none⟩), .int .i64 1, .int .i64 0, .int .i64 3] W (OpE na v [p, q, (wrP r (d ++ ⟨#[120]⟩)), u] 2 2 (arP (wrP r (d ++ ⟨#[120]⟩)) 3) (.tuple #[.int .i64 (arN (wrP r (d ++ ⟨#[120]⟩)) 3), .int .i64 0]) W) := fun W v h => arrive_good W na 2 v _ h (netOk_four fp fq gZ1 fu) 1 0 (by omega) (by omega) 3 (by omega)
              have cR1 : ∀ W v, IsNet W na v [p, q, (arP (wrP r (d ++ ⟨#[120]⟩)) 3), u] 2 → Calls Try.prog 14 #[.pointer (some ⟨na, 0, none⟩), .int .i64 1, .int .i64 0, .int .i64 2] W (OpE na v [p, q, (arP (wrP r (d ++ ⟨#[120]⟩)) 3), u] 2 2 (rdP (arP (wrP r (d ++ ⟨#[120]⟩)) 3) 2) (.tuple #[.string (rdS (arP (wrP r (d ++ ⟨#[120]⟩)) 3) 2), .int .i64 0]) W) := fun W v h => read_good W na 2 v _ h (netOk_four fp fq gZ2 fu) 1 0 (by omega) (by omega) 2 (by omega)
              have cWa : ∀ W v, IsNet W na v [p, q, (rdP (arP (wrP r (d ++ ⟨#[120]⟩)) 3) 2), u] 2 → Calls Try.prog 12 #[.pointer (some ⟨na, 0, none⟩), .int .i64 0, .int .i64 1, .string d] W (OpE na v [p, q, (rdP (arP (wrP r (d ++ ⟨#[120]⟩)) 3) 2), u] 2 0 (wrP p d) (.int .i64 (wrE p d)) W) := fun W v h => write_good W na 2 v _ h (netOk_four fp fq gZ3 fu) 0 1 (by omega) (by omega) _ (by omega)
              have cWb : ∀ W v, IsNet W nb v [p, q] 1 → Calls Try.prog 12 #[.pointer (some ⟨nb, 0, none⟩), .int .i64 0, .int .i64 1, .string d] W (OpE nb v [p, q] 1 0 (wrP p d) (.int .i64 (wrE p d)) W) := fun W v h => write_good W nb 1 v _ h (netOk_two fp fq) 0 1 (by omega) (by omega) _ (by omega)
              have cAa : ∀ W v, IsNet W na v [(wrP p d), q, (rdP (arP (wrP r (d ++ ⟨#[120]⟩)) 3) 2), u] 2 → Calls Try.prog 13 #[.pointer (some ⟨na, 0, none⟩), .int .i64 0, .int .i64 0, .int .i64 m] W (OpE na v [(wrP p d), q, (rdP (arP (wrP r (d ++ ⟨#[120]⟩)) 3) 2), u] 2 0 (arP (wrP p d) m) (.tuple #[.int .i64 (arN (wrP p d) m), .int .i64 0]) W) := fun W v h => arrive_good W na 2 v _ h (netOk_four gX1 fq gZ3 fu) 0 0 (by omega) (by omega) m (by omega)
              have cAb : ∀ W v, IsNet W nb v [(wrP p d), q] 1 → Calls Try.prog 13 #[.pointer (some ⟨nb, 0, none⟩), .int .i64 0, .int .i64 0, .int .i64 m] W (OpE nb v [(wrP p d), q] 1 0 (arP (wrP p d) m) (.tuple #[.int .i64 (arN (wrP p d) m), .int .i64 0]) W) := fun W v h => arrive_good W nb 1 v _ h (netOk_two gX1 fq) 0 0 (by omega) (by omega) m (by omega)
              have cRa : ∀ W v, IsNet W na v [(arP (wrP p d) m), q, (rdP (arP (wrP r (d ++ ⟨#[120]⟩)) 3) 2), u] 2 → Calls Try.prog 14 #[.pointer (some ⟨na, 0, none⟩), .int .i64 0, .int .i64 0, .int .i64 k] W (OpE na v [(arP (wrP p d) m), q, (rdP (arP (wrP r (d ++ ⟨#[120]⟩)) 3) 2), u] 2 0 (rdP (arP (wrP p d) m) k) (.tuple #[.string (rdS (arP (wrP p d) m) k), .int .i64 0]) W) := fun W v h => read_good W na 2 v _ h (netOk_four gX2 fq gZ3 fu) 0 0 (by omega) (by omega) k (by omega)
              have cRb : ∀ W v, IsNet W nb v [(arP (wrP p d) m), q] 1 → Calls Try.prog 14 #[.pointer (some ⟨nb, 0, none⟩), .int .i64 0, .int .i64 0, .int .i64 k] W (OpE nb v [(arP (wrP p d) m), q] 1 0 (rdP (arP (wrP p d) m) k) (.tuple #[.string (rdS (arP (wrP p d) m) k), .int .i64 0]) W) := fun W v h => read_good W nb 1 v _ h (netOk_two gX2 fq) 0 0 (by omega) (by omega) k (by omega)
              clear fr gZ1 gZ2 gX1 gX2 hdx
              generalize rdS (arP (wrP p d) m) k = sx at cRa cRb
              generalize rdS (arP (wrP r (d ++ ⟨#[120]⟩)) 3) 2 = sz at cR1
              generalize rdP (arP (wrP p d) m) k = X3 at gX3 cRa cRb
              generalize arP (wrP p d) m = X2 at cAa cAb cRa cRb
              generalize (arN (wrP p d) m : Int) = ka at cAa cAb
              generalize wrP p d = X1 at cWa cWb cAa cAb cRa cRb
              generalize wrE p d = ex at cWa cWb
              generalize rdP (arP (wrP r (d ++ ⟨#[120]⟩)) 3) 2 = Z3 at gZ3 cR1 cWa cAa cRa
              generalize arP (wrP r (d ++ ⟨#[120]⟩)) 3 = Z2 at cA1 cR1
              generalize (arN (wrP r (d ++ ⟨#[120]⟩)) 3 : Int) = kz at cA1
              generalize wrP r (d ++ ⟨#[120]⟩) = Z1 at cW1 cA1 cR1
              generalize wrE r (d ++ ⟨#[120]⟩) = ez at cW1
              rw [← hm] at cAa cAb
              rw [← hk] at cRa cRb
              clear hm hk
              have hA2 := fun W => among_any sd 2 W (by decide) (by decide)
              simp only [hsd] at hA2
              have hA50 := fun x W => among_any x 50 W (by decide) (by decide)
              go_upto_region 16 with (first
                | (go_at_call 11; refine (hA2 _).mono ?_; rintro e w' ⟨rfl, rfl⟩)
                | (go_at_call 12; refine (cW1 _ _ S0.NA.I).mono ?_; rintro e w1 ⟨rfl, i1, c1⟩; have S1 := S0.opA (ps' := [p, q, Z1, u]) i1 c1)
                | (go_at_call 13; refine (cA1 _ _ S1.NA.I).mono ?_; rintro e w2 ⟨rfl, i2, c2⟩; have S2 := S1.opA (ps' := [p, q, Z2, u]) i2 c2)
                | (go_at_call 14; refine (cR1 _ _ S2.NA.I).mono ?_; rintro e w3 ⟨rfl, i3, c3⟩; have S3 := S2.opA (ps' := [p, q, Z3, u]) i3 c3; have y1 := S3.E.at 1 rfl))
              clear hA2
              go_cut [8, 9] (fun e1 e2 wx => ∃ ex : Int, e1 = .int .i64 ex ∧ e2 = .int .i64 ex ∧ Pt w.heap.size w wx na nb va vb [X1, q, Z3, u] [X1, q] wr.heap.size #[.int .i64 sd, .string d, .int .i64 cm, .int .i64 tk])
              case first =>
                have T3 := S3.quiet ((Below.refl _ _).drew)
                go_region_with (first
                  | (go_at_call_of 12 na; refine (cWa _ _ T3.NA.I).mono ?_; rintro e w4 ⟨rfl, i4, c4⟩; have Sa := T3.opA (ps' := [X1, q, Z3, u]) i4 c4; have y2 := Sa.E.at 1 rfl)
                  | (go_at_call_of 12 nb; refine (cWb _ _ Sa.NB.I).mono ?_; rintro e w5 ⟨rfl, i5, c5⟩; have Sz := Sa.opB (ps' := [X1, q]) i5 c5)
                  | (go_at_call_of 12 nb; refine (cWb _ _ T3.NB.I).mono ?_; rintro e w4 ⟨rfl, i4, c4⟩; have Sb := T3.opB (ps' := [X1, q]) i4 c4; have y2 := Sb.E.at 1 rfl)
                  | (go_at_call_of 12 na; refine (cWa _ _ Sb.NA.I).mono ?_; rintro e w5 ⟨rfl, i5, c5⟩; have Sz := Sb.opA (ps' := [X1, q, Z3, u]) i5 c5))
                all_goals
                  go_wp2_with fail
                  go_meet
                  exact ⟨ex, rfl, rfl, Sz⟩
              case rest =>
                obtain ⟨ex', rfl, rfl, S5⟩ := hcut
                have z2 := S5.E.at 2 rfl
                go_wp2_with (first
                  | (go_at_call_of 14 nb; refine (cRb _ _ S8.NB.I).mono ?_; rintro e w9 ⟨rfl, i9, c9⟩; have S9 := S8.opB (ps' := [X3, q]) i9 c9)
                  | (go_at_call_of 14 na; refine (cRa _ _ S7.NA.I).mono ?_; rintro e w8 ⟨rfl, i8, c8⟩; have S8 := S7.opA (ps' := [X3, q, Z3, u]) i8 c8; have z8 := S8.E.at 3 rfl)
                  | (go_at_call_of 13 nb; refine (cAb _ _ S6.NB.I).mono ?_; rintro e w7 ⟨rfl, i7, c7⟩; have S7 := S6.opB (ps' := [X2, q]) i7 c7; have z7 := S7.E.at 3 rfl)
                  | (go_at_call_of 13 na; refine (cAa _ _ S5.NA.I).mono ?_; rintro e w6 ⟨rfl, i6, c6⟩; have S6 := S5.opA (ps' := [X2, q, Z3, u]) i6 c6; have z6 := S6.E.at 2 rfl)
                  | (go_at_call 11; refine (hA50 _ _).mono ?_; rintro e w' ⟨rfl, rfl⟩))
                go_meet
                exact ⟨X3, q, Z3, u, ⟨S9.NA, S9.NB, S9.ne, S9.ap⟩, gX3, fq, gZ3, fu⟩
        case rest =>
          obtain ⟨p', q', r', u', n1, n2, n3, n4, n5⟩ := hcut
          go_wp2_with fail
          go_roundg (60 - (j + 1))
          case rel => exact ⟨j + 1, p', q', r', u', by omega, by omega, by go_num, rfl, n1, n2, n3, n4, n5⟩
          case measure => omega
      · go_wp2_with fail
        go_ret
        exact ⟨rfl, hP.NA.bel⟩
    · by_cases hlen : j < len
      · go_wp2_with fail
        go_ret
        exact ⟨rfl, hP.NA.bel⟩
      · go_wp2_with fail
        go_ret
        exact ⟨rfl, hP.NA.bel⟩

end Go.Proofs.Ytnbjbjpfleiogaa
