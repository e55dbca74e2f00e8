/- The law StreamTotals walked: for every list of pieces it returns true and leaves all that was there as it was; conditions: none but that the list's length is a slice's. -/
import Derived.Test.YtnbjbjpfleiogaaStPieces
import Derived.BigRegion
namespace Go.Proofs.Ytnbjbjpfleiogaa
open Go.RowKit

/-- What a round turns: the net, two arrays, the piece. -/
structure St (B : Nat) (w0 w : World) (nb : Nat) (v : Value) (ps : List Pipe) (bo br be : Nat) (ao ar ae : Array Value) : Prop where
  N : NetIn B w0 w nb v ps 1
  O : Blk w bo 37 ao
  R : Blk w br 37 ar
  E : Blk w be 30 ae
  Bo : B ≤ bo
  Br : B ≤ br
  ne : bo ≠ br
section
variable {B : Nat} {w0 w w' : World} {nb : Nat} {v : Value} {ps ps' : List Pipe} {bo br be : Nat} {ao ar ae : Array Value}
theorem NetIn.off {n g : Nat} {t : TypeId} {cs : Array Value} (h : NetIn B w0 w nb v ps n) (hb : Blk w g t cs) (ht : 56 ≠ t) : g ∉ v.ownBlock.toList :=
  fun hm => own_ne h.I.row hb ht (Option.mem_toList.1 hm).symm
theorem St.op (h : St B w0 w nb v ps bo br be ao ar ae) (hI : IsNet w' nb v ps' 1) (hc : Chg v.ownBlock.toList w w') : St B w0 w' nb v ps' bo br be ao ar ae :=
  { h with N := h.N.op hI hc, O := h.O.chg hc (h.N.off h.O (by decide)), R := h.R.chg hc (h.N.off h.R (by decide)), E := h.E.chg hc (h.N.off h.E (by decide)) }
theorem St.quiet (h : St B w0 w nb v ps bo br be ao ar ae) (hb : Below w.heap.size w w') : St B w0 w' nb v ps bo br be ao ar ae :=
  { h with N := h.N.quiet hb, O := h.O.below hb h.O.lt, R := h.R.below hb h.R.lt, E := h.E.below hb h.E.lt }
theorem St.setO (h : St B w0 w nb v ps bo br be ao ar ae) (i : Nat) (u : Value) : St B w0 (w.setCell ⟨bo, i, none⟩ u) nb v ps bo br be (ao.setIfInBounds i u) ar ae := by
  have hc : Chg [bo] w (w.setCell ⟨bo, i, none⟩ u) := (Chg.refl _ _).setCell (.inl (by simp)) _
  exact { h with N := h.N.far hc (by simpa using h.N.I.net.ne h.O (by decide)) (fun g hg hm => own_ne h.N.I.row h.O (by decide) (by simp only [List.mem_singleton] at hm; rw [hg, hm])) (by simpa using h.Bo),
                 O := h.O.set i u, R := h.R.far h.ne.symm _, E := h.E.far (h.E.ne h.O (by decide)) _ }
theorem St.setR (h : St B w0 w nb v ps bo br be ao ar ae) (i : Nat) (u : Value) : St B w0 (w.setCell ⟨br, i, none⟩ u) nb v ps bo br be ao (ar.setIfInBounds i u) ae := by
  have hc : Chg [br] w (w.setCell ⟨br, i, none⟩ u) := (Chg.refl _ _).setCell (.inl (by simp)) _
  exact { h with N := h.N.far hc (by simpa using h.N.I.net.ne h.R (by decide)) (fun g hg hm => own_ne h.N.I.row h.R (by decide) (by simp only [List.mem_singleton] at hm; rw [hg, hm])) (by simpa using h.Br),
                 O := h.O.far h.ne _, R := h.R.set i u, E := h.E.far (h.E.ne h.R (by decide)) _ }
end

set_option maxRecDepth 100000 in
set_option maxHeartbeats 4000000 in
theorem streamTotals_any (w : World) (ao : Option Addr) (len cap : Nat) (A : List Piece) (hA : A.length = len) (hl : len ≤ 9223372036854775807) (hrd : RdP w w.heap.size ao A) :
    Calls Try.prog 4 #[.slice ao len cap] w fun e w' => e = .returned (.bool true) ∧ Below w.heap.size w w' := by
  have hN := new_any w
  have hD := fun W v h => dial_room W w.heap.size 0 v [] h (by omega)
  have hW := fun W => lawWorks_any W
  have HA := Lib.hid hA
  clear hA
  go_enter Try.func4, Try.ntmps4
  go_wp2_with (first
    | (go_at_call 8; refine hN.mono ?_; rintro e w1 ⟨rfl, h1, b1⟩)
    | (go_at_call 9; refine (hW _).mono ?_; rintro e w2 ⟨rfl, b2⟩)
    | (go_at_call 10; refine (hD _ _ (h1.chg (Chg.of_below b2 []) (by simp) (fun _ _ => by simp))).mono ?_; rintro e w3 ⟨rfl, v3, h3, c3, m3⟩))
  have N1 : NetIn w.heap.size w w1 w.heap.size (.slice none 0 0) [] 0 := ⟨h1, b1, Nat.le_refl _, fun g hg => by cases hg⟩
  have N3 := (N1.quiet b2).dial h3 c3 m3
  have z3 := N3.size
  clear hN hD hW h1 b1 b2 h3 c3 m3 N1
  go_loopg [8] 100 (fun gn i wr => ∃ (j : Nat) (p q : Pipe) (wa wb ra rb : Int) (v : Value), j ≤ len ∧ j ≤ 100 ∧ i = .int .i64 j ∧ gn = 100 - j ∧ NetIn w.heap.size w wr w.heap.size v [p, q] 1 ∧ Blk wr w3.heap.size 37 #[.int .i64 wa, .int .i64 wb] ∧ Blk wr (w3.heap.size + 1) 37 #[.int .i64 ra, .int .i64 rb] ∧
    p.shut = false ∧ q.shut = false ∧ wa = ra + p.way.size + p.here.size ∧ wb = rb + q.way.size + q.here.size ∧ 0 ≤ ra ∧ 0 ≤ rb ∧ wa ≤ 1000 * j ∧ wb ≤ 1000 * j)
  case atStart =>
    refine ⟨0, pipe0, pipe0, 0, 0, 0, 0, v3, Nat.zero_le _, Nat.zero_le _, rfl, rfl, ?_, ?_, ?_, rfl, rfl, by decide, by decide, by omega, by omega, by omega, by omega⟩
    · exact N3.quiet (((Below.refl _ _).alloc (Nat.le_refl _) _).alloc (by simp) _)
    · exact (Blk.new _ _ _).alloc _
    · exact Blk.new' _ _ _ (by simp)
  case round =>
    obtain ⟨j, p, q, wa, wb, ra, rb, v, hj1, hj2, rfl, rfl, hNr, hBo, hBr, hps, hqs, ha, hb, ra0, rb0, wa1, wb1⟩ := hrel
    by_cases h100 : j < 100
    · by_cases hlen : j < len
      · have hjA : j < A.length := by rw [HA.out]; exact hlen
        have hrj := (hrd.below hNr.bel) j hjA
        generalize A.getD j piece0 = pc at hrj
        obtain ⟨sd, d, cm, tk⟩ := pc
        dsimp only at hrj
        obtain ⟨b, off, rfl, hbB, r1, r2, r3, r4, hsz⟩ := hrj
        clear hjA
        have S0 : St w.heap.size w (wr.alloc (.cells #[.int .i64 sd, .string d, .int .i64 cm, .int .i64 tk] 30)) w.heap.size v [p, q] w3.heap.size (w3.heap.size + 1) wr.heap.size #[.int .i64 wa, .int .i64 wb] #[.int .i64 ra, .int .i64 rb] #[.int .i64 sd, .string d, .int .i64 cm, .int .i64 tk] :=
          ⟨hNr.quiet ((Below.refl _ _).alloc (Nat.le_refl _) _), hBo.alloc _, hBr.alloc _, Blk.new _ _ _, by omega, by omega, by omega⟩
        have o0 := S0.E.at 0 rfl
        have o1 := S0.E.at 1 rfl
        have hfp : Fits p := by unfold Fits; omega
        have hfq : Fits q := by unfold Fits; omega
        have wa0 : 0 ≤ wa := by omega
        have wb0 : 0 ≤ wb := by omega
        have ra1 : ra ≤ wa := by omega
        have rb1 : rb ≤ wb := by omega
        have hp5 : p.way.size + p.here.size ≤ 100000 := by omega
        have hq5 : q.way.size + q.here.size ≤ 100000 := by omega
        have HEa := Lib.hid ha
        have HEb := Lib.hid hb
        clear ha hb
        go_upto_block 1 with fail
        go_cut [10] (fun _ wx => ∃ (p q : Pipe) (wa wb ra rb : Int) (v : Value), NetIn w.heap.size w wx w.heap.size v [p, q] 1 ∧ Blk wx w3.heap.size 37 #[.int .i64 wa, .int .i64 wb] ∧ Blk wx (w3.heap.size + 1) 37 #[.int .i64 ra, .int .i64 rb] ∧
          p.shut = false ∧ q.shut = false ∧ wa = ra + p.way.size + p.here.size ∧ wb = rb + q.way.size + q.here.size ∧ 0 ≤ ra ∧ 0 ≤ rb ∧ wa ≤ 1000 * (j + 1 : Nat) ∧ wb ≤ 1000 * (j + 1 : Nat))
        case first =>
          by_cases hd : 1000 < d.size
          · go_wp2_with fail
            go_meet
            exact ⟨p, q, wa, wb, ra, rb, v, S0.N, S0.O, S0.R, hps, hqs, HEa.out, HEb.out, ra0, rb0, by omega, by omega⟩
          · have hsd2 : sd % 2 = 0 ∨ sd % 2 = 1 := by omega
            rcases hsd2 with hsd | hsd
            · have hRC := round_of w.heap.size (fun x => [p, x]) 0 1 (by omega) rfl (fun a b => rfl) (fun a => rfl) (fun a => rfl) q hqs d (by omega) (by omega) (fun a ha => netOk_two hfp ha) (cm % 50) (tk % 50) (by omega) (by omega) (by omega) (by omega)
              generalize wrP q d = X1 at hRC
              generalize arP X1 (cm % 50).toNat = X2 at hRC
              generalize rdS X2 (tk % 50).toNat = x at hRC
              generalize rdP X2 (tk % 50).toNat = X3 at hRC
              generalize (arN X1 (cm % 50).toNat : Int) = kk at hRC
              have k0 := hRC.k0
              have km := hRC.km
              have ka := hRC.ka
              have x0 := hRC.x0
              have HW := Lib.hid hRC.w3
              have HH := Lib.hid hRC.h3
              have HS := Lib.hid hRC.sh
              have HR := Lib.hid hRC
              clear hRC
              have hA2 := fun W => among_any sd 2 W (by decide) (by decide)
              simp only [hsd] at hA2
              have hA50 := fun x W => among_any x 50 W (by decide) (by decide)
              go_upto_region 16 with (first | (go_at_call 11; refine (hA2 _).mono ?_; rintro e w' ⟨rfl, rfl⟩) | (go_at_call 12; refine (HR.out.wr _ _ S0.N.I).mono ?_; rintro e w1 ⟨rfl, i1, c1⟩; have S1 := S0.op (ps' := [p, X1]) i1 c1; have u0 := S1.O.at 1 rfl; have u1 := S1.O.free 1; have u2 := S1.E.at 1 rfl))
              clear hA2
              go_region
              have S2 := (S1.setO 1 (.int .i64 (wb + d.size))).quiet ((Below.refl _ _).drew)
              go_upto_region 25 with (first
                | (go_at_call 15; refine (HR.out.p3 _ _ (S6.setR 1 (.int .i64 (rb + x.size))).N.I).mono ?_; rintro e w6 ⟨rfl, b6⟩; have S8 := (S6.setR 1 (.int .i64 (rb + x.size))).quiet b6; have g1 := S8.O.at 1 rfl; have g2 := S8.R.at 1 rfl)
                | (go_at_call 14; refine (HR.out.rd _ _ S5.N.I).mono ?_; rintro e w5 ⟨rfl, i5, c5⟩; have S6 := S5.op (ps' := [p, X3]) i5 c5; have f1 := S6.R.at 1 rfl; have f2 := S6.R.free 1)
                | (go_at_call 15; refine (HR.out.p2 _ _ S4.N.I).mono ?_; rintro e w4 ⟨rfl, b4⟩; have S5 := S4.quiet b4; have d2 := S5.E.at 2 rfl; have d3 := S5.E.at 3 rfl)
                | (go_at_call 13; refine (HR.out.ar _ _ S3.N.I).mono ?_; rintro e w3' ⟨rfl, i3, c3⟩; have S4 := S3.op (ps' := [p, X2]) i3 c3)
                | (go_at_call 15; refine (HR.out.p1 _ _ S2.N.I).mono ?_; rintro e w2 ⟨rfl, b2⟩; have S3 := S2.quiet b2; have c2 := S3.E.at 2 rfl)
                | (go_at_call 11; refine (hA50 _ _).mono ?_; rintro e w' ⟨rfl, rfl⟩))
              have HZ : (((q.way.size : Int) + d.size - kk + (q.here.size + kk - x.size) + (rb + x.size)) = wb + d.size) := by have := HEb.out; omega
              go_quiet (fail)
              go_wp2_with fail
              go_meet
              have q1 := HW.out
              have q2 := HH.out
              have q3 := HEb.out
              refine ⟨p, X3, wa, wb + d.size, ra, rb + x.size, v, (S8.quiet (below_drewN (Below.refl _ _) _)).N, Blk.conv S8.O rfl, Blk.conv S8.R rfl, hps, HS.out, HEa.out, by omega, by omega, by omega, by omega, by omega⟩
            · have hRC := round_of w.heap.size (fun x => [x, q]) 1 0 (by omega) rfl (fun a b => rfl) (fun a => rfl) (fun a => rfl) p hps d (by omega) (by omega) (fun a ha => netOk_two ha hfq) (cm % 50) (tk % 50) (by omega) (by omega) (by omega) (by omega)
              generalize wrP p d = X1 at hRC
              generalize arP X1 (cm % 50).toNat = X2 at hRC
              generalize rdS X2 (tk % 50).toNat = x at hRC
              generalize rdP X2 (tk % 50).toNat = X3 at hRC
              generalize (arN X1 (cm % 50).toNat : Int) = kk at hRC
              have k0 := hRC.k0
              have km := hRC.km
              have ka := hRC.ka
              have x0 := hRC.x0
              have HW := Lib.hid hRC.w3
              have HH := Lib.hid hRC.h3
              have HS := Lib.hid hRC.sh
              have HR := Lib.hid hRC
              clear hRC
              have hA2 := fun W => among_any sd 2 W (by decide) (by decide)
              simp only [hsd] at hA2
              have hA50 := fun x W => among_any x 50 W (by decide) (by decide)
              go_upto_region 16 with (first | (go_at_call 11; refine (hA2 _).mono ?_; rintro e w' ⟨rfl, rfl⟩) | (go_at_call 12; refine (HR.out.wr _ _ S0.N.I).mono ?_; rintro e w1 ⟨rfl, i1, c1⟩; have S1 := S0.op (ps' := [X1, q]) i1 c1; have u0 := S1.O.at 0 rfl; have u1 := S1.O.free 0; have u2 := S1.E.at 1 rfl))
              clear hA2
              go_region
              have S2 := (S1.setO 0 (.int .i64 (wa + d.size))).quiet ((Below.refl _ _).drew)
              go_upto_region 25 with (first
                | (go_at_call 15; refine (HR.out.p3 _ _ (S6.setR 0 (.int .i64 (ra + x.size))).N.I).mono ?_; rintro e w6 ⟨rfl, b6⟩; have S8 := (S6.setR 0 (.int .i64 (ra + x.size))).quiet b6; have g1 := S8.O.at 0 rfl; have g2 := S8.R.at 0 rfl)
                | (go_at_call 14; refine (HR.out.rd _ _ S5.N.I).mono ?_; rintro e w5 ⟨rfl, i5, c5⟩; have S6 := S5.op (ps' := [X3, q]) i5 c5; have f1 := S6.R.at 0 rfl; have f2 := S6.R.free 0)
                | (go_at_call 15; refine (HR.out.p2 _ _ S4.N.I).mono ?_; rintro e w4 ⟨rfl, b4⟩; have S5 := S4.quiet b4; have d2 := S5.E.at 2 rfl; have d3 := S5.E.at 3 rfl)
                | (go_at_call 13; refine (HR.out.ar _ _ S3.N.I).mono ?_; rintro e w3' ⟨rfl, i3, c3⟩; have S4 := S3.op (ps' := [X2, q]) i3 c3)
                | (go_at_call 15; refine (HR.out.p1 _ _ S2.N.I).mono ?_; rintro e w2 ⟨rfl, b2⟩; have S3 := S2.quiet b2; have c2 := S3.E.at 2 rfl)
                | (go_at_call 11; refine (hA50 _ _).mono ?_; rintro e w' ⟨rfl, rfl⟩))
              have HZ : (((p.way.size : Int) + d.size - kk + (p.here.size + kk - x.size) + (ra + x.size)) = wa + d.size) := by have := HEa.out; omega
              go_quiet (fail)
              go_wp2_with fail
              go_meet
              have q1 := HW.out
              have q2 := HH.out
              have q3 := HEa.out
              refine ⟨X3, q, wa + d.size, wb, ra + x.size, rb, v, (S8.quiet (below_drewN (Below.refl _ _) _)).N, Blk.conv S8.O rfl, Blk.conv S8.R rfl, HS.out, hqs, by omega, HEb.out, by omega, by omega, by omega, by omega⟩
        case rest =>
          obtain ⟨p', q', wa', wb', ra', rb', v', n1, n2, n3, n4, n5, n6, n7, n8, n9, n10, n11⟩ := hcut
          go_wp2_with fail
          go_roundg (100 - (j + 1))
          case rel => exact ⟨j + 1, p', q', wa', wb', ra', rb', v', by omega, by omega, by go_num, rfl, n1, n2, n3, n4, n5, n6, n7, n8, n9, n10, n11⟩
          case measure => omega
      · go_wp2_with fail
        go_ret
        exact ⟨rfl, hNr.bel⟩
    · by_cases hlen : j < len
      · go_wp2_with fail
        go_ret
        exact ⟨rfl, hNr.bel⟩
      · go_wp2_with fail
        go_ret
        exact ⟨rfl, hNr.bel⟩

end Go.Proofs.Ytnbjbjpfleiogaa
