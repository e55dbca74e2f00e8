/- The law StreamOrder walked: for every list of pieces it returns true and leaves all that was there as it was; conditions: none but that the list's length is a slice's. -/
import Derived.Test.YtnbjbjpfleiogaaStBytes
import Derived.BigRegion
namespace Go.Proofs.Ytnbjbjpfleiogaa
open Go.RowKit

/-- What a round turns: the net, two arrays, the piece. -/
structure St (B : Nat) (w0 w : World) (nb : Nat) (v : Value) (ps : List Pipe) (bo br be : Nat) (ao ar ae : Array Value) : Prop where
  N : NetIn B w0 w nb v ps 1
  O : Blk w bo 40 ao
  R : Blk w br 40 ar
  E : Blk w be 30 ae
  Bo : B ≤ bo
  Br : B ≤ br
  ne : bo ≠ br
section
variable {B : Nat} {w0 w w' : World} {nb : Nat} {v : Value} {ps ps' : List Pipe} {bo br be : Nat} {ao ar ae : Array Value}
theorem NetIn.off {n g : Nat} {t : TypeId} {cs : Array Value} (h : NetIn B w0 w nb v ps n) (hb : Blk w g t cs) (ht : 56 ≠ t) : g ∉ v.ownBlock.toList :=
  fun hm => own_ne h.I.row hb ht (Option.mem_toList.1 hm).symm
theorem St.op (h : St B w0 w nb v ps bo br be ao ar ae) (hI : IsNet w' nb v ps' 1) (hc : Chg v.ownBlock.toList w w') : St B w0 w' nb v ps' bo br be ao ar ae :=
  { h with N := h.N.op hI hc, O := h.O.chg hc (h.N.off h.O (by decide)), R := h.R.chg hc (h.N.off h.R (by decide)), E := h.E.chg hc (h.N.off h.E (by decide)) }
theorem St.quiet (h : St B w0 w nb v ps bo br be ao ar ae) (hb : Below w.heap.size w w') : St B w0 w' nb v ps bo br be ao ar ae :=
  { h with N := h.N.quiet hb, O := h.O.below hb h.O.lt, R := h.R.below hb h.R.lt, E := h.E.below hb h.E.lt }
theorem St.setO (h : St B w0 w nb v ps bo br be ao ar ae) (i : Nat) (u : Value) : St B w0 (w.setCell ⟨bo, i, none⟩ u) nb v ps bo br be (ao.setIfInBounds i u) ar ae := by
  have hc : Chg [bo] w (w.setCell ⟨bo, i, none⟩ u) := (Chg.refl _ _).setCell (.inl (by simp)) _
  exact { h with N := h.N.far hc (by simpa using h.N.I.net.ne h.O (by decide)) (fun g hg hm => own_ne h.N.I.row h.O (by decide) (by simp only [List.mem_singleton] at hm; rw [hg, hm])) (by simpa using h.Bo),
                 O := h.O.set i u, R := h.R.far h.ne.symm _, E := h.E.far (h.E.ne h.O (by decide)) _ }
theorem St.setR (h : St B w0 w nb v ps bo br be ao ar ae) (i : Nat) (u : Value) : St B w0 (w.setCell ⟨br, i, none⟩ u) nb v ps bo br be ao (ar.setIfInBounds i u) ae := by
  have hc : Chg [br] w (w.setCell ⟨br, i, none⟩ u) := (Chg.refl _ _).setCell (.inl (by simp)) _
  exact { h with N := h.N.far hc (by simpa using h.N.I.net.ne h.R (by decide)) (fun g hg hm => own_ne h.N.I.row h.R (by decide) (by simp only [List.mem_singleton] at hm; rw [hg, hm])) (by simpa using h.Br),
                 O := h.O.far h.ne _, R := h.R.set i u, E := h.E.far (h.E.ne h.R (by decide)) _ }
end

structure S2 (B : Nat) (w0 w : World) (nb : Nat) (v : Value) (ps : List Pipe) (bo br : Nat) (ao ar : Array Value) : Prop where
  N : NetIn B w0 w nb v ps 1
  O : Blk w bo 40 ao
  R : Blk w br 40 ar
section
variable {B : Nat} {w0 w w' : World} {nb : Nat} {v : Value} {ps ps' : List Pipe} {bo br : Nat} {ao ar : Array Value}
theorem S2.op (h : S2 B w0 w nb v ps bo br ao ar) (hI : IsNet w' nb v ps' 1) (hc : Chg v.ownBlock.toList w w') : S2 B w0 w' nb v ps' bo br ao ar :=
  ⟨h.N.op hI hc, h.O.chg hc (h.N.off h.O (by decide)), h.R.chg hc (h.N.off h.R (by decide))⟩
theorem S2.quiet (h : S2 B w0 w nb v ps bo br ao ar) (hb : Below w.heap.size w w') : S2 B w0 w' nb v ps bo br ao ar :=
  ⟨h.N.quiet hb, h.O.below hb h.O.lt, h.R.below hb h.R.lt⟩
end

/-- What the calls of the end say, on the pipe X to side t: close, ended, all arrives, all is read, ended. -/
structure CloseC (nb : Nat) (L : Pipe → List Pipe) (s t : Int) (ti : Nat) (X X1 X2 X3 : Pipe) (b : Bool) (k : Int) (x : ByteArray) : Prop where
  cl : ∀ W v, IsNet W nb v (L X) 1 → Calls Try.prog 16 #[.pointer (some ⟨nb, 0, none⟩), .int .i64 0, .int .i64 s] W (OpE nb v (L X) 1 ti X1 (.int .i64 0) W)
  e1 : ∀ W v, IsNet W nb v (L X1) 1 → Calls Try.prog 17 #[.pointer (some ⟨nb, 0, none⟩), .int .i64 0, .int .i64 t] W fun e w' => e = .returned (.tuple #[.bool b, .int .i64 0]) ∧ W = w'
  ar : ∀ W v, IsNet W nb v (L X1) 1 → Calls Try.prog 13 #[.pointer (some ⟨nb, 0, none⟩), .int .i64 0, .int .i64 t, .int .i64 262144] W (OpE nb v (L X1) 1 ti X2 (.tuple #[.int .i64 k, .int .i64 0]) W)
  rd : ∀ W v, IsNet W nb v (L X2) 1 → Calls Try.prog 14 #[.pointer (some ⟨nb, 0, none⟩), .int .i64 0, .int .i64 t, .int .i64 262144] W (OpE nb v (L X2) 1 ti X3 (.tuple #[.string x, .int .i64 0]) W)
  e2 : ∀ W v, IsNet W nb v (L X3) 1 → Calls Try.prog 17 #[.pointer (some ⟨nb, 0, none⟩), .int .i64 0, .int .i64 t] W fun e w' => e = .returned (.tuple #[.bool true, .int .i64 0]) ∧ W = w'
  set : ∀ a b, (L a).set ti b = L b
  fit : Fits X3
  shut : X3.shut = true

theorem isEmpty_iff (a : ByteArray) : a.toList.isEmpty = decide (a.size = 0) := by
  rw [ByteArray.toList_eq]
  obtain ⟨⟨l⟩⟩ := a
  cases l <;> rfl

theorem close_of (nb : Nat) (L : Pipe → List Pipe) (si ti : Nat) (hsi : si < 2) (hti : ti = 1 - si) (hL : ∀ a b, (L a).set ti b = L b) (hG : ∀ a, (L a).getD ti pipe0 = a) (X : Pipe) (hX : X.shut = false) (hf : Fits X)
    (hO : ∀ a, Fits a → NetOk (L a) 1) :
    CloseC nb L si ti ti X (clP X) (arP (clP X) 262144) (rdP (arP (clP X) 262144) 262144) (enB (clP X)) (arN (clP X) 262144) (held X) := by
  have f1 := fits_cl hf
  have f2 := fits_ar f1 262144
  have f3 := fits_rd f2 262144
  have ht : 2 * 0 + ti = ti := by omega
  have hts : 2 * 0 + (1 - si) = ti := by omega
  have e0 : clE X = 0 := by unfold clE; rw [hX, if_neg (by decide)]
  unfold Fits at hf
  have n1 : arN (clP X) 262144 = X.way.size := by show min 262144 X.way.size = _; omega
  have a1 : arP (clP X) 262144 = ⟨ByteArray.empty, X.here ++ X.way, true⟩ := by
    unfold arP; rw [n1]; simp [clP]
  have n2 : rdN (arP (clP X) 262144) 262144 = (X.here ++ X.way).size := by rw [a1]; show min 262144 (X.here ++ X.way).size = _; rw [ByteArray.size_append]; omega
  have b1 : rdS (arP (clP X) 262144) 262144 = held X := by
    unfold rdS; rw [n2, a1]; exact ByteArray.extract_zero_size
  have b2 : rdP (arP (clP X) 262144) 262144 = ⟨ByteArray.empty, ByteArray.empty, true⟩ := by
    unfold rdP; rw [n2, a1]; simp
  have en : enB (rdP (arP (clP X) 262144) 262144) = true := by rw [b2]; unfold enB; simp only [isEmpty_iff]; rfl
  have sh : (rdP (arP (clP X) 262144) 262144).shut = true := by rw [b2]
  have ended : ∀ (a : Pipe), Fits a → ∀ W v, IsNet W nb v (L a) 1 → Calls Try.prog 17 #[.pointer (some ⟨nb, 0, none⟩), .int .i64 0, .int .i64 ti] W fun e w' => e = .returned (.tuple #[.bool (enB a), .int .i64 0]) ∧ W = w' := fun a ha W v h => by
    have := ended_good W nb 1 v (L a) h (hO a ha) 0 ti (by omega) (by omega)
    rw [ht, hG] at this
    exact this
  refine ⟨fun W v h => ?_, fun W v h => ended _ f1 W v h, fun W v h => ?_, fun W v h => ?_, fun W v h => ?_, hL, f3, sh⟩
  · have := close_good W nb 1 v (L X) h (hO X hf) 0 si (by omega) hsi
    rw [hts, hG, e0] at this
    exact this
  · have := arrive_good W nb 1 v _ h (hO _ f1) 0 ti (by omega) (by omega) 262144 (by omega)
    rw [ht, hG] at this
    exact this
  · have := read_good W nb 1 v _ h (hO _ f2) 0 ti (by omega) (by omega) 262144 (by omega)
    rw [ht, hG, b1] at this
    exact this
  · have := ended _ f3 W v h
    rw [en] at this
    exact this

theorem ended_of (X : Pipe) (r wt : ByteArray) (h : wt = r ++ held X) : (enB (clP X) = true ∧ r = wt) ∨ (enB (clP X) = false ∧ r.size ≠ wt.size) := by
  have hs := congrArg ByteArray.size h
  rw [ByteArray.size_append] at hs
  unfold enB clP
  simp only [isEmpty_iff, Bool.true_and]
  have h2 : (held X).size = X.here.size + X.way.size := ByteArray.size_append
  by_cases h0 : (held X).size = 0
  · refine .inl ⟨by rw [Bool.and_eq_true, decide_eq_true_iff, decide_eq_true_iff]; omega, ?_⟩
    rw [h, ByteArray.size_eq_zero_iff.1 h0]; simp
  · refine .inr ⟨?_, by omega⟩
    rw [Bool.and_eq_false_iff, decide_eq_false_iff_not, decide_eq_false_iff_not]; omega

theorem shut_write (W : World) (nb : Nat) (v : Value) (ps : List Pipe) (h : IsNet W nb v ps 1) (ok : NetOk ps 1) (s : Nat) (hs : s < 2) (hsh : (ps.getD (1 - s) pipe0).shut = true) :
    Calls Try.prog 12 #[.pointer (some ⟨nb, 0, none⟩), .int .i64 0, .int .i64 s, .string ⟨#[]⟩] W fun e w' => e = .returned (.int .i64 20) ∧ IsNet w' nb v ps 1 ∧ Chg v.ownBlock.toList W w' := by
  refine (write_good W nb 1 v ps h ok 0 s (by omega) hs ⟨#[]⟩ (by decide)).mono ?_
  rintro e w' ⟨rfl, i, c⟩
  have e1 : 2 * 0 + (1 - s) = 1 - s := by omega
  rw [e1] at i ⊢
  refine ⟨by unfold wrE; rw [if_pos hsh], ?_, c⟩
  have : wrP (ps.getD (1 - s) pipe0) ⟨#[]⟩ = ps.getD (1 - s) pipe0 := by unfold wrP; rw [if_pos hsh]
  rw [this, set_same] at i
  exact i

set_option maxRecDepth 100000 in
set_option maxHeartbeats 8000000 in
theorem streamOrder_any (w : World) (ao : Option Addr) (len cap : Nat) (A : List Piece) (hA : A.length = len) (hl : len ≤ 9223372036854775807) (hrd : RdP w w.heap.size ao A) :
    Calls Try.prog 5 #[.slice ao len cap] w fun e w' => e = .returned (.bool true) ∧ Below w.heap.size w w' := by
  have hN := new_any w
  have hD := fun W v h => dial_room W w.heap.size 0 v [] h (by omega)
  have hW := fun W => lawWorks_any W
  have HA := Lib.hid hA
  clear hA
  go_enter Try.func5, Try.ntmps5
  go_upto_block 0 with (first
    | (go_at_call 8; refine hN.mono ?_; rintro e w1 ⟨rfl, h1, b1⟩)
    | (go_at_call 9; refine (hW _).mono ?_; rintro e w2 ⟨rfl, b2⟩)
    | (go_at_call 10; refine (hD _ _ (h1.chg (Chg.of_below b2 []) (by simp) (fun _ _ => by simp))).mono ?_; rintro e w3 ⟨rfl, v3, h3, c3, m3⟩))
  have N1 : NetIn w.heap.size w w1 w.heap.size (.slice none 0 0) [] 0 := ⟨h1, b1, Nat.le_refl _, fun g hg => by cases hg⟩
  have N3 := (N1.quiet b2).dial h3 c3 m3
  have z3 := N3.size
  clear hN hD hW h1 b1 b2 h3 c3 m3 N1
  go_cut [8] (fun _ wx => ∃ (p q : Pipe) (wa wb ra rb : ByteArray) (v : Value), NetIn w.heap.size w wx w.heap.size v [p, q] 1 ∧ Blk wx w3.heap.size 40 #[.string wa, .string wb] ∧ Blk wx (w3.heap.size + 1) 40 #[.string ra, .string rb] ∧
    p.shut = false ∧ q.shut = false ∧ wa = ra ++ held p ∧ wb = rb ++ held q ∧ Fits p ∧ Fits q ∧ wa.size ≤ 100000 ∧ wb.size ≤ 100000)
  case first =>
   go_wp2_with fail
   go_loopg [8] 100 (fun gn i wr => ∃ (j : Nat) (p q : Pipe) (wa wb ra rb : ByteArray) (v : Value), j ≤ len ∧ j ≤ 100 ∧ i = .int .i64 j ∧ gn = 100 - j ∧ NetIn w.heap.size w wr w.heap.size v [p, q] 1 ∧ Blk wr w3.heap.size 40 #[.string wa, .string wb] ∧ Blk wr (w3.heap.size + 1) 40 #[.string ra, .string rb] ∧
    p.shut = false ∧ q.shut = false ∧ wa = ra ++ held p ∧ wb = rb ++ held q ∧ wa.size ≤ 1000 * j ∧ wb.size ≤ 1000 * j)
   case atStart =>
     refine ⟨0, pipe0, pipe0, ⟨#[]⟩, ⟨#[]⟩, ⟨#[]⟩, ⟨#[]⟩, v3, Nat.zero_le _, Nat.zero_le _, rfl, rfl, ?_, ?_, ?_, rfl, rfl, rfl, rfl, by decide, by decide⟩
     · exact N3.quiet (((Below.refl _ _).alloc (Nat.le_refl _) _).alloc (by simp) _)
     · exact (Blk.new _ _ _).alloc _
     · exact Blk.new' _ _ _ (by simp)
   case round =>
     obtain ⟨j, p, q, wa, wb, ra, rb, v, hj1, hj2, rfl, rfl, hNr, hBo, hBr, hps, hqs, ha, hb, wa1, wb1⟩ := hrel
     have sa := congrArg ByteArray.size ha
     have sb := congrArg ByteArray.size hb
     unfold held at sa sb
     simp only [ByteArray.size_append] at sa sb
     have hfp : Fits p := by unfold Fits; omega
     have hfq : Fits q := by unfold Fits; omega
     have hra : ra.size ≤ wa.size := by omega
     have hrb : rb.size ≤ wb.size := by omega
     have hp5 : p.way.size + p.here.size ≤ 100000 := by omega
     have hq5 : q.way.size + q.here.size ≤ 100000 := by omega
     have HEa := Lib.hid ha
     have HEb := Lib.hid hb
     clear ha hb sa sb
     by_cases h100 : j < 100
     · by_cases hlen : j < len
       · have hjA : j < A.length := by rw [HA.out]; exact hlen
         have hrj := (hrd.below hNr.bel) j hjA
         generalize A.getD j piece0 = pc at hrj
         obtain ⟨sd, d, cm, tk⟩ := pc
         dsimp only at hrj
         obtain ⟨b, off, rfl, hbB, r1, r2, r3, r4, hsz⟩ := hrj
         clear hjA
         have S0 : St w.heap.size w (wr.alloc (.cells #[.int .i64 sd, .string d, .int .i64 cm, .int .i64 tk] 30)) w.heap.size v [p, q] w3.heap.size (w3.heap.size + 1) wr.heap.size #[.string wa, .string wb] #[.string ra, .string rb] #[.int .i64 sd, .string d, .int .i64 cm, .int .i64 tk] :=
           ⟨hNr.quiet ((Below.refl _ _).alloc (Nat.le_refl _) _), hBo.alloc _, hBr.alloc _, Blk.new _ _ _, by omega, by omega, by omega⟩
         have o0 := S0.E.at 0 rfl
         have o1 := S0.E.at 1 rfl
         go_upto_block 1 with fail
         go_cut [10] (fun _ wx => ∃ (p q : Pipe) (wa wb ra rb : ByteArray) (v : Value), NetIn w.heap.size w wx w.heap.size v [p, q] 1 ∧ Blk wx w3.heap.size 40 #[.string wa, .string wb] ∧ Blk wx (w3.heap.size + 1) 40 #[.string ra, .string rb] ∧
           p.shut = false ∧ q.shut = false ∧ wa = ra ++ held p ∧ wb = rb ++ held q ∧ wa.size ≤ 1000 * (j + 1) ∧ wb.size ≤ 1000 * (j + 1))
         case first =>
           by_cases hd : 1000 < d.size
           · go_wp2_with fail
             go_meet
             exact ⟨p, q, wa, wb, ra, rb, v, S0.N, S0.O, S0.R, hps, hqs, HEa.out, HEb.out, by omega, by omega⟩
           · have hsd2 : sd % 2 = 0 ∨ sd % 2 = 1 := by omega
             rcases hsd2 with hsd | hsd
             · skip

               have hRC := round_of w.heap.size (fun x => [p, x]) 0 1 (by omega) rfl (fun a b => rfl) (fun a => rfl) (fun a => rfl) q hqs d (by omega) (by omega) (fun a ha => netOk_two hfp ha) (cm % 50) (tk % 50) (by omega) (by omega) (by omega) (by omega)
               have hAll := held_round (X := q) (d := d) hqs (by omega) (cm % 50).toNat (tk % 50).toNat
               generalize wrP q d = X1 at hRC hAll
               generalize arP X1 (cm % 50).toNat = X2 at hRC hAll
               generalize rdS X2 (tk % 50).toNat = x at hRC hAll
               generalize rdP X2 (tk % 50).toNat = X3 at hRC hAll
               generalize (arN X1 (cm % 50).toNat : Int) = kk at hRC
               have x0 := hRC.x0
               have km := hRC.km
               have hnew : wb ++ d = (rb ++ x) ++ held X3 := by rw [HEb.out, ByteArray.append_assoc, ← hAll, ByteArray.append_assoc]
               have hcut0 : (wb ++ d).extract 0 (rb ++ x).size = rb ++ x := by rw [hnew]; exact ByteArray.extract_append_eq_left rfl
               rw [ByteArray.size_append] at hcut0
               have hle : rb.size + x.size ≤ wb.size + d.size := by
                 have := congrArg ByteArray.size hnew
                 simp only [ByteArray.size_append] at this; omega
               have HC := Lib.hid hcut0
               have HN := Lib.hid hnew
               have HS := Lib.hid hRC.sh
               have HR := Lib.hid hRC
               clear hRC hAll hnew hcut0
               have hA2 := fun W => among_any sd 2 W (by decide) (by decide)
               simp only [hsd] at hA2
               have hA50 := fun x W => among_any x 50 W (by decide) (by decide)
               go_upto_region 16 with (first | (go_at_call 11; refine (hA2 _).mono ?_; rintro e w' ⟨rfl, rfl⟩) | (go_at_call 12; refine (HR.out.wr _ _ S0.N.I).mono ?_; rintro e w1 ⟨rfl, i1, c1⟩; have S1 := S0.op (ps' := [p, X1]) i1 c1; have u0 := S1.O.at 1 rfl; have u1 := S1.O.free 1; have u2 := S1.E.at 1 rfl))
               clear hA2
               go_region
               have S2 := (S1.setO 1 (.string (wb ++ d))).quiet ((Below.refl _ _).drew)
               have c2 := S2.E.at 2 rfl
               go_upto_region 24 with (first
                 | (go_at_call 14; refine (HR.out.rd _ _ S4.N.I).mono ?_; rintro e w5 ⟨rfl, i5, c5⟩; have S6 := S4.op (ps' := [p, X3]) i5 c5; have f1 := S6.R.at 1 rfl; have f2 := S6.R.free 1)
                 | (go_at_call 13; refine (HR.out.ar _ _ S2.N.I).mono ?_; rintro e w3' ⟨rfl, i3, c3⟩; have S4 := S2.op (ps' := [p, X2]) i3 c3; have d3 := S4.E.at 3 rfl)
                 | (go_at_call 11; refine (hA50 _ _).mono ?_; rintro e w' ⟨rfl, rfl⟩))
               have S7 := S6.setR 1 (.string (rb ++ x))
               have g1 := S7.O.at 1 rfl
               have g2 := S7.R.at 1 rfl
               have HC' := HC.out
               have hdec : decide ((wb.size : Int) + (d.size : Int) < (rb.size : Int) + (x.size : Int)) = false := decide_eq_false (by omega)
               go_quiet (fail)
               clear HC'
               go_wp2_with fail
               go_meet
               exact ⟨p, X3, wa, wb ++ d, ra, rb ++ x, v, (S7.quiet (below_drewN (Below.refl _ _) _)).N, Blk.conv S7.O rfl, Blk.conv S7.R rfl, hps, HS.out, HEa.out, HN.out, by first | omega | (rw [ByteArray.size_append]; omega), by first | omega | (rw [ByteArray.size_append]; omega)⟩
             · skip

               have hRC := round_of w.heap.size (fun x => [x, q]) 1 0 (by omega) rfl (fun a b => rfl) (fun a => rfl) (fun a => rfl) p hps d (by omega) (by omega) (fun a ha => netOk_two ha hfq) (cm % 50) (tk % 50) (by omega) (by omega) (by omega) (by omega)
               have hAll := held_round (X := p) (d := d) hps (by omega) (cm % 50).toNat (tk % 50).toNat
               generalize wrP p d = X1 at hRC hAll
               generalize arP X1 (cm % 50).toNat = X2 at hRC hAll
               generalize rdS X2 (tk % 50).toNat = x at hRC hAll
               generalize rdP X2 (tk % 50).toNat = X3 at hRC hAll
               generalize (arN X1 (cm % 50).toNat : Int) = kk at hRC
               have x0 := hRC.x0
               have km := hRC.km
               have hnew : wa ++ d = (ra ++ x) ++ held X3 := by rw [HEa.out, ByteArray.append_assoc, ← hAll, ByteArray.append_assoc]
               have hcut0 : (wa ++ d).extract 0 (ra ++ x).size = ra ++ x := by rw [hnew]; exact ByteArray.extract_append_eq_left rfl
               rw [ByteArray.size_append] at hcut0
               have hle : ra.size + x.size ≤ wa.size + d.size := by
                 have := congrArg ByteArray.size hnew
                 simp only [ByteArray.size_append] at this; omega
               have HC := Lib.hid hcut0
               have HN := Lib.hid hnew
               have HS := Lib.hid hRC.sh
               have HR := Lib.hid hRC
               clear hRC hAll hnew hcut0
               have hA2 := fun W => among_any sd 2 W (by decide) (by decide)
               simp only [hsd] at hA2
               have hA50 := fun x W => among_any x 50 W (by decide) (by decide)
               go_upto_region 16 with (first | (go_at_call 11; refine (hA2 _).mono ?_; rintro e w' ⟨rfl, rfl⟩) | (go_at_call 12; refine (HR.out.wr _ _ S0.N.I).mono ?_; rintro e w1 ⟨rfl, i1, c1⟩; have S1 := S0.op (ps' := [X1, q]) i1 c1; have u0 := S1.O.at 0 rfl; have u1 := S1.O.free 0; have u2 := S1.E.at 1 rfl))
               clear hA2
               go_region
               have S2 := (S1.setO 0 (.string (wa ++ d))).quiet ((Below.refl _ _).drew)
               have c2 := S2.E.at 2 rfl
               go_upto_region 24 with (first
                 | (go_at_call 14; refine (HR.out.rd _ _ S4.N.I).mono ?_; rintro e w5 ⟨rfl, i5, c5⟩; have S6 := S4.op (ps' := [X3, q]) i5 c5; have f1 := S6.R.at 0 rfl; have f2 := S6.R.free 0)
                 | (go_at_call 13; refine (HR.out.ar _ _ S2.N.I).mono ?_; rintro e w3' ⟨rfl, i3, c3⟩; have S4 := S2.op (ps' := [X2, q]) i3 c3; have d3 := S4.E.at 3 rfl)
                 | (go_at_call 11; refine (hA50 _ _).mono ?_; rintro e w' ⟨rfl, rfl⟩))
               have S7 := S6.setR 0 (.string (ra ++ x))
               have g1 := S7.O.at 0 rfl
               have g2 := S7.R.at 0 rfl
               have HC' := HC.out
               have hdec : decide ((wa.size : Int) + (d.size : Int) < (ra.size : Int) + (x.size : Int)) = false := decide_eq_false (by omega)
               go_quiet (fail)
               clear HC'
               go_wp2_with fail
               go_meet
               exact ⟨X3, q, wa ++ d, wb, ra ++ x, rb, v, (S7.quiet (below_drewN (Below.refl _ _) _)).N, Blk.conv S7.O rfl, Blk.conv S7.R rfl, HS.out, hqs, HN.out, HEb.out, by first | omega | (rw [ByteArray.size_append]; omega), by first | omega | (rw [ByteArray.size_append]; omega)⟩
         case rest =>
           obtain ⟨p', q', wa', wb', ra', rb', v', n1, n2, n3, n4, n5, n6, n7, n8, n9⟩ := hcut
           go_wp2_with fail
           go_roundg (100 - (j + 1))
           case rel => exact ⟨j + 1, p', q', wa', wb', ra', rb', v', by omega, by omega, by go_num, rfl, n1, n2, n3, n4, n5, n6, n7, n8, n9⟩
           case measure => omega
       · go_wp2_with fail
         go_meet
         exact ⟨p, q, wa, wb, ra, rb, v, hNr, hBo, hBr, hps, hqs, HEa.out, HEb.out, hfp, hfq, by omega, by omega⟩
     · go_wp2_with fail
       all_goals go_meet
       all_goals exact ⟨p, q, wa, wb, ra, rb, v, hNr, hBo, hBr, hps, hqs, HEa.out, HEb.out, hfp, hfq, by omega, by omega⟩
  case rest =>
    obtain ⟨p, q, wa, wb, ra, rb, v, hN0, hO0, hR0, hps, hqs, ha, hb, hfp, hfq, wa1, wb1⟩ := hcut
    have hp0' := Lib.hid (And.intro hps ha)
    have hq0' := Lib.hid (And.intro hqs hb)
    clear hps hqs ha hb
    go_wp2_with fail
    go_loopg [130] 2 (fun gn i wr => ∃ (σ : Nat) (p q : Pipe) (wa wb ra rb : ByteArray) (v : Value), σ ≤ 2 ∧ i = .int .i64 σ ∧ gn = 2 - σ ∧ NetIn w.heap.size w wr w.heap.size v [p, q] 1 ∧ Blk wr w3.heap.size 40 #[.string wa, .string wb] ∧ Blk wr (w3.heap.size + 1) 40 #[.string ra, .string rb] ∧
      Fits p ∧ Fits q ∧ (σ = 0 → p.shut = false ∧ wa = ra ++ held p) ∧ (σ ≤ 1 → q.shut = false ∧ wb = rb ++ held q) ∧ (0 < σ → p.shut = true) ∧ (σ = 2 → q.shut = true) ∧ wa.size ≤ 100000 ∧ wb.size ≤ 100000)
    case atStart =>
      exact ⟨0, p, q, wa, wb, ra, rb, v, by omega, rfl, rfl, hN0, hO0, hR0, hfp, hfq, fun _ => hp0'.out, fun _ => hq0'.out, fun h => absurd h (by omega), fun h => absurd h (by omega), wa1, wb1⟩
    case round =>
      clear hN0 hO0 hR0 hfp hfq hp0' hq0' wa1 wb1
      obtain ⟨σ, p, q, wa, wb, ra, rb, v, hσ, rfl, rfl, hNr, hBo, hBr, hfp, hfq, hp0, hq0, hp1, hq1, wa1, wb1⟩ := hrel
      have hs3 : σ = 0 ∨ σ = 1 ∨ σ = 2 := by omega
      rcases hs3 with rfl | rfl | rfl
      · skip
        obtain ⟨xs, HE⟩ := hp0 rfl
        have hCC := close_of w.heap.size (fun x => [x, q]) 1 0 (by omega) rfl (fun a b => rfl) (fun a => rfl) p xs hfp (fun a ha => netOk_two ha hfq)
        have hb := ended_of p ra wa HE
        have hsum := congrArg ByteArray.size HE
        rw [ByteArray.size_append] at hsum
        have hle : ra.size + (held p).size ≤ 100000 := by omega
        clear hsum
        have HC := Lib.hid HE.symm
        have Hq0 := Lib.hid hq0
        have Hp1 := Lib.hid hp1
        clear HE hp0 hq0 hp1 hq1
        generalize clP p = X1 at hCC hb
        generalize arP X1 262144 = X2 at hCC
        generalize rdP X2 262144 = X3 at hCC
        generalize enB X1 = bb at hCC hb
        generalize (arN X1 262144 : Int) = zz at hCC
        generalize held p = x at hCC HC hle
        have HF := Lib.hid hCC.fit
        have HS := Lib.hid hCC.shut
        have HR := Lib.hid hCC
        clear hCC
        have S0 : S2 w.heap.size w wr w.heap.size v [p, q] w3.heap.size (w3.heap.size + 1) #[.string wa, .string wb] #[.string ra, .string rb] := ⟨hNr, hBo, hBr⟩
        rcases hb with ⟨rfl, hb⟩ | ⟨rfl, hb⟩
        · subst hb
          go_upto_region 32 with (first
            | (go_at_call 17; refine (HR.out.e1 _ _ S1.N.I).mono ?_; rintro e w2 ⟨rfl, rfl⟩; have f1 := S1.O.at 0 rfl; have f2 := S1.R.at 0 rfl)
            | (go_at_call 16; refine (HR.out.cl _ _ S0.N.I).mono ?_; rintro e w1 ⟨rfl, i1, c1⟩; have S1 := S0.op (ps' := [X1, q]) i1 c1))
          go_quiet (fail)
          have S3 := fun m => S1.quiet (below_drewN (Below.refl _ _) m)
          go_upto_region 37 with (first
            | (go_at_call 17; refine (HR.out.e2 _ _ S5.N.I).mono ?_; rintro e w6 ⟨rfl, rfl⟩; have f3 := S5.O.at 0 rfl; have f4 := S5.R.at 0 rfl)
            | (go_at_call 14; refine (HR.out.rd _ _ S4.N.I).mono ?_; rintro e w5 ⟨rfl, i5, c5⟩; have S5 := S4.op (ps' := [X3, q]) i5 c5)
            | (go_at_call 13; refine (HR.out.ar _ _ (S3 _).N.I).mono ?_; rintro e w4 ⟨rfl, i4, c4⟩; have S4 := (S3 _).op (ps' := [X2, q]) i4 c4))
          have HC' := HC.out
          go_quiet (fail)
          clear HC'
          have S6 := fun m => S5.quiet (below_drewN (Below.refl _ _) m)
          go_wp2_with fail
          go_roundg (2 - 1)
          case rel => exact ⟨1, X3, q, ra, wb, ra, rb, v, by omega, rfl, rfl, (S6 _).N, (S6 _).O, (S6 _).R, HF.out, hfq, fun h => absurd h (by omega), fun _ => Hq0.out (by omega), fun _ => HS.out, fun h => absurd h (by omega), wa1, wb1⟩
          case measure => omega
        · have hdec : decide ((ra.size : Int) = (wa.size : Int)) = false := decide_eq_false (by omega)
          go_upto_region 32 with (first
            | (go_at_call 17; refine (HR.out.e1 _ _ S1.N.I).mono ?_; rintro e w2 ⟨rfl, rfl⟩; have f1 := S1.O.at 0 rfl; have f2 := S1.R.at 0 rfl)
            | (go_at_call 16; refine (HR.out.cl _ _ S0.N.I).mono ?_; rintro e w1 ⟨rfl, i1, c1⟩; have S1 := S0.op (ps' := [X1, q]) i1 c1))
          go_quiet (fail)
          have S3 := fun m => S1.quiet (below_drewN (Below.refl _ _) m)
          go_upto_region 37 with (first
            | (go_at_call 17; refine (HR.out.e2 _ _ S5.N.I).mono ?_; rintro e w6 ⟨rfl, rfl⟩; have f3 := S5.O.at 0 rfl; have f4 := S5.R.at 0 rfl)
            | (go_at_call 14; refine (HR.out.rd _ _ S4.N.I).mono ?_; rintro e w5 ⟨rfl, i5, c5⟩; have S5 := S4.op (ps' := [X3, q]) i5 c5)
            | (go_at_call 13; refine (HR.out.ar _ _ (S3 _).N.I).mono ?_; rintro e w4 ⟨rfl, i4, c4⟩; have S4 := (S3 _).op (ps' := [X2, q]) i4 c4))
          have HC' := HC.out
          go_quiet (fail)
          clear HC'
          have S6 := fun m => S5.quiet (below_drewN (Below.refl _ _) m)
          go_wp2_with fail
          go_roundg (2 - 1)
          case rel => exact ⟨1, X3, q, wa, wb, ra, rb, v, by omega, rfl, rfl, (S6 _).N, (S6 _).O, (S6 _).R, HF.out, hfq, fun h => absurd h (by omega), fun _ => Hq0.out (by omega), fun _ => HS.out, fun h => absurd h (by omega), wa1, wb1⟩
          case measure => omega
      · skip
        obtain ⟨xs, HE⟩ := hq0 (by omega)
        have hCC := close_of w.heap.size (fun x => [p, x]) 0 1 (by omega) rfl (fun a b => rfl) (fun a => rfl) q xs hfq (fun a ha => netOk_two hfp ha)
        have hb := ended_of q rb wb HE
        have hsum := congrArg ByteArray.size HE
        rw [ByteArray.size_append] at hsum
        have hle : rb.size + (held q).size ≤ 100000 := by omega
        clear hsum
        have HC := Lib.hid HE.symm
        have Hq0 := Lib.hid hq0
        have Hp1 := Lib.hid hp1
        clear HE hp0 hq0 hp1 hq1
        generalize clP q = X1 at hCC hb
        generalize arP X1 262144 = X2 at hCC
        generalize rdP X2 262144 = X3 at hCC
        generalize enB X1 = bb at hCC hb
        generalize (arN X1 262144 : Int) = zz at hCC
        generalize held q = x at hCC HC hle
        have HF := Lib.hid hCC.fit
        have HS := Lib.hid hCC.shut
        have HR := Lib.hid hCC
        clear hCC
        have S0 : S2 w.heap.size w wr w.heap.size v [p, q] w3.heap.size (w3.heap.size + 1) #[.string wa, .string wb] #[.string ra, .string rb] := ⟨hNr, hBo, hBr⟩
        rcases hb with ⟨rfl, hb⟩ | ⟨rfl, hb⟩
        · subst hb
          go_upto_region 32 with (first
            | (go_at_call 17; refine (HR.out.e1 _ _ S1.N.I).mono ?_; rintro e w2 ⟨rfl, rfl⟩; have f1 := S1.O.at 1 rfl; have f2 := S1.R.at 1 rfl)
            | (go_at_call 16; refine (HR.out.cl _ _ S0.N.I).mono ?_; rintro e w1 ⟨rfl, i1, c1⟩; have S1 := S0.op (ps' := [p, X1]) i1 c1))
          go_quiet (fail)
          have S3 := fun m => S1.quiet (below_drewN (Below.refl _ _) m)
          go_upto_region 37 with (first
            | (go_at_call 17; refine (HR.out.e2 _ _ S5.N.I).mono ?_; rintro e w6 ⟨rfl, rfl⟩; have f3 := S5.O.at 1 rfl; have f4 := S5.R.at 1 rfl)
            | (go_at_call 14; refine (HR.out.rd _ _ S4.N.I).mono ?_; rintro e w5 ⟨rfl, i5, c5⟩; have S5 := S4.op (ps' := [p, X3]) i5 c5)
            | (go_at_call 13; refine (HR.out.ar _ _ (S3 _).N.I).mono ?_; rintro e w4 ⟨rfl, i4, c4⟩; have S4 := (S3 _).op (ps' := [p, X2]) i4 c4))
          have HC' := HC.out
          go_quiet (fail)
          clear HC'
          have S6 := fun m => S5.quiet (below_drewN (Below.refl _ _) m)
          go_wp2_with fail
          go_roundg (2 - 2)
          case rel => exact ⟨2, p, X3, wa, rb, ra, rb, v, by omega, rfl, rfl, (S6 _).N, (S6 _).O, (S6 _).R, hfp, HF.out, fun h => absurd h (by omega), fun h => absurd h (by omega), fun _ => Hp1.out (by omega), fun _ => HS.out, wa1, wb1⟩
          case measure => omega
        · have hdec : decide ((rb.size : Int) = (wb.size : Int)) = false := decide_eq_false (by omega)
          go_upto_region 32 with (first
            | (go_at_call 17; refine (HR.out.e1 _ _ S1.N.I).mono ?_; rintro e w2 ⟨rfl, rfl⟩; have f1 := S1.O.at 1 rfl; have f2 := S1.R.at 1 rfl)
            | (go_at_call 16; refine (HR.out.cl _ _ S0.N.I).mono ?_; rintro e w1 ⟨rfl, i1, c1⟩; have S1 := S0.op (ps' := [p, X1]) i1 c1))
          go_quiet (fail)
          have S3 := fun m => S1.quiet (below_drewN (Below.refl _ _) m)
          go_upto_region 37 with (first
            | (go_at_call 17; refine (HR.out.e2 _ _ S5.N.I).mono ?_; rintro e w6 ⟨rfl, rfl⟩; have f3 := S5.O.at 1 rfl; have f4 := S5.R.at 1 rfl)
            | (go_at_call 14; refine (HR.out.rd _ _ S4.N.I).mono ?_; rintro e w5 ⟨rfl, i5, c5⟩; have S5 := S4.op (ps' := [p, X3]) i5 c5)
            | (go_at_call 13; refine (HR.out.ar _ _ (S3 _).N.I).mono ?_; rintro e w4 ⟨rfl, i4, c4⟩; have S4 := (S3 _).op (ps' := [p, X2]) i4 c4))
          have HC' := HC.out
          go_quiet (fail)
          clear HC'
          have S6 := fun m => S5.quiet (below_drewN (Below.refl _ _) m)
          go_wp2_with fail
          go_roundg (2 - 2)
          case rel => exact ⟨2, p, X3, wa, wb, ra, rb, v, by omega, rfl, rfl, (S6 _).N, (S6 _).O, (S6 _).R, hfp, HF.out, fun h => absurd h (by omega), fun h => absurd h (by omega), fun _ => Hp1.out (by omega), fun _ => HS.out, wa1, wb1⟩
          case measure => omega
      · have sp := hp1 (by omega)
        have sq := hq1 rfl
        have hw := fun W v h => shut_write W w.heap.size v [p, q] h (netOk_two hfp hfq)
        have hw0 := fun W v h => hw W v h 0 (by omega) sq
        have hw1 := fun W v h => hw W v h 1 (by omega) sp
        clear hw hp0 hq0 hp1 hq1
        go_wp2_with (first
          | (go_at_call 12; refine (hw1 _ _ i1).mono ?_; rintro e w2 ⟨rfl, i2, c2⟩)
          | (go_at_call 12; refine (hw0 _ _ hNr.I).mono ?_; rintro e w1 ⟨rfl, i1, c1⟩))
        go_ret
        exact ⟨rfl, ((hNr.op i1 c1).op i2 c2).bel⟩

end Go.Proofs.Ytnbjbjpfleiogaa
