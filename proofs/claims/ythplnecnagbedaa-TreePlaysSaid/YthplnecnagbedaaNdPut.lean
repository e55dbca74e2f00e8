/- New, Get, Put, Take, Order, Counts of a node, each by its contract; conditions: the node is one, and lies in memory. -/
import Derived.Test.YthplnecnagbedaaNdOps
namespace Go.Proofs.Ythplnecnagbedaa
open Go.RowKit

theorem find_yes {N : Nd} {k : ByteArray} (h : hasE N.ents k = true) : (findM N k).2 = (N.slot (lbE N.ents k) : Int) := if_pos h
theorem find_no {N : Nd} {k : ByteArray} (h : hasE N.ents k = false) : (findM N k).2 = -1 := if_neg (by rw [h]; simp)
theorem getM_yes {N : Nd} {k : ByteArray} (h : hasE N.ents k = true) : getM N k = (N.V.getD (N.slot (lbE N.ents k)) 0, true) := by unfold getM; rw [V_at h]
theorem getM_no {N : Nd} {k : ByteArray} (h : hasE N.ents k = false) : getM N k = (0, false) := by unfold getM; rw [get_has h]
theorem lb_u {N : Nd} {k : ByteArray} (h : hasE N.ents k = true) : lbE N.ents k < N.u := by have := has_lt h; rwa [ents_len] at this
theorem lb_le {N : Nd} (k : ByteArray) : lbE N.ents k ≤ N.u := by have := lbE_le N.ents k; rwa [ents_len] at this
theorem ins_new {N : Nd} (h : NdOk N) (hu : N.u < 15) {p : Nat} (hp : p ≤ N.u) : insOut N.x (p : Int) = (wordL (N.u + 1) (mvL N.l N.u p), N.slot N.u, 0) := by
  have hok : OkL (slotsL N.x) := h.ok
  have e : N.x % 16 = N.u := rfl
  unfold insOut
  rw [if_pos hok, e, if_neg (by omega), if_neg (by omega), Int.toNat_natCast]
  rfl
theorem ins_full {N : Nd} (h : NdOk N) (hu : N.u = 15) (p : Int) : insOut N.x p = (0, 0, 120) := by
  have hok : OkL (slotsL N.x) := h.ok
  have e : N.x % 16 = N.u := rfl
  unfold insOut
  rw [if_pos hok, e, if_pos hu]
theorem rem_old {N : Nd} (h : NdOk N) {p : Nat} (hp : p < N.u) : remOut N.x (p : Int) = (wordL (N.u - 1) (mvL N.l p (N.u - 1)), N.slot p, 0) := by
  have hok : OkL (slotsL N.x) := h.ok
  have e : N.x % 16 = N.u := rfl
  unfold remOut
  rw [if_pos hok, e, if_neg (by omega), Int.toNat_natCast]
  rfl

set_option maxRecDepth 100000 in
theorem get_any (w : World) (g : Nat) (N : Nd) (hok : NdOk N) (hN : Blk w g 95 (ndCells N)) (k : ByteArray) :
    Calls Try.prog 27 #[.pointer (some ⟨g, 0, none⟩), .string k] w fun e w' => e = .returned (.tuple #[.int .i64 (getM N k).1, .bool (getM N k).2]) ∧ Below w.heap.size w w' := by
  have hF := find_any w g N hok hN k
  cases hh : hasE N.ents k with
  | true =>
    have hs := slot_lt hok (i := lbE N.ents k) (by have := lb_u hh; have := hok.u15; omega)
    have hv := hN.at _ (nd_atV hok.kl hok.vl hs)
    rw [find_yes hh] at hF
    rw [getM_yes hh]
    have hgl := hN.lt
    have HN := Lib.hid hN
    generalize N.V.getD (N.slot (lbE N.ents k)) 0 = v at hv ⊢
    generalize N.slot (lbE N.ents k) = s at hF hs hv
    clear hN hok hh
    go_enter Try.func27, Try.ntmps27
    go_upto_region 4 with (go_at_call 58; refine hF.mono ?_; rintro e w2 ⟨rfl, b2⟩)
    have hv2 := (b2.cell (p := ⟨g, 16 + s, none⟩) hgl).trans hv
    have hs2 : (s : Int) < 15 := by omega
    go_wp2_with fail
    go_ret2
    exact ⟨rfl, b2⟩
  | false =>
    rw [find_no hh] at hF
    rw [getM_no hh]
    clear hN hok hh
    go_enter Try.func27, Try.ntmps27
    go_wp2_with (go_at_call 58; refine hF.mono ?_; rintro e w2 ⟨rfl, b2⟩)
    go_ret2
    exact ⟨rfl, b2⟩

def PutPost (w : World) (g : Nat) (r : Nd × Int × Bool × Int) (e : Ending) (w' : World) : Prop :=
  e = .returned (.tuple #[.int .i64 r.2.1, .bool r.2.2.1, .int .i64 r.2.2.2]) ∧ Blk w' g 95 (ndCells r.1) ∧ Chg [g] w w'
set_option maxRecDepth 100000 in
set_option maxHeartbeats 1000000 in
theorem put_any (w : World) (g : Nat) (N : Nd) (hok : NdOk N) (hi : N.ins < 4611686018427387904) (hN : Blk w g 95 (ndCells N)) (k : ByteArray) (v : Int) :
    Calls Try.prog 26 #[.pointer (some ⟨g, 0, none⟩), .string k, .int .i64 v] w (PutPost w g (putM N k v)) := by
  have hF := find_any w g N hok hN k
  have hgl := hN.lt
  obtain ⟨R, hR⟩ : ∃ R, R = putM N k v := ⟨_, rfl⟩
  rw [← hR]
  by_cases hk : 4096 < k.size
  · have hr : putM N k v = (N, 0, false, 2) := by unfold putM; rw [if_pos hk]
    have HR := Lib.hid (hR.trans hr)
    have HN := Lib.hid hN
    clear hN hok hF hr hR
    have hk' : (4096 : Int) < (k.size : Int) := by omega
    go_enter Try.func26, Try.ntmps26
    go_wp2_with fail
    go_ret3
    rw [HR.out]
    exact ⟨rfl, HN.out, Chg.refl _ _⟩
  have hk' : ¬ ((4096 : Int) < (k.size : Int)) := by omega
  cases hh : hasE N.ents k with
  | true =>
    have hr : putM N k v = (⟨N.x, N.K, N.V.set (N.slot (lbE N.ents k)) v, N.ins, N.spl⟩, N.V.getD (N.slot (lbE N.ents k)) 0, true, 0) := by unfold putM; rw [if_neg hk, if_pos hh]
    have hs := slot_lt hok (i := lbE N.ents k) (by have := lb_u hh; have := hok.u15; omega)
    have hv := hN.at _ (nd_atV hok.kl hok.vl hs)
    have hset := nd_setV hok.kl hok.vl hs v
    rw [find_yes hh] at hF
    have hr := hR.trans hr
    have HN := Lib.hid hN
    clear hN hok hh hk hR
    generalize N.V.getD (N.slot (lbE N.ents k)) 0 = v0 at hv hr
    generalize N.slot (lbE N.ents k) = s at hF hs hv hset hr
    have HSET := Lib.hid hset
    have HR := Lib.hid hr
    clear hr hset
    have hs2 : (s : Int) < 15 := by omega
    go_enter Try.func26, Try.ntmps26
    go_upto_region 5 with (go_at_call 58; refine hF.mono ?_; rintro e w2 ⟨rfl, b2⟩)
    have hv2 := (b2.cell (p := ⟨g, 16 + s, none⟩) hgl).trans hv
    have hN2 := HN.out.below b2 hgl
    have hf2 := hN2.free (16 + s)
    have HN2 := Lib.hid hN2
    clear hv hN2
    go_region
    all_goals
      go_wp2_with fail
      go_ret3
      rw [HR.out]
      exact ⟨rfl, by rw [← HSET.out]; first | exact (HN2.out.set _ _).drew | exact HN2.out.drew.set _ _, ((Chg.of_below b2 [g]).drew).setCell (.inl (by simp)) _⟩
  | false =>
    have hle := lb_le (N := N) k
    rw [find_no hh] at hF
    have c0 : w.cell? ⟨g, 0, none⟩ = some (.int .u64 N.x) := hN.at 0 nd_at0
    have hI := fun W => insert_any W N.x hok.lt (lbE N.ents k : Nat)
    by_cases hu : N.u = 15
    · have hr : putM N k v = (N, 0, false, 120) := by unfold putM; rw [if_neg hk, if_neg (by rw [hh]; simp), if_pos hu]
      have HR := Lib.hid (hR.trans hr)
      rw [ins_full hok hu] at hI
      have hI2 : ∀ W, Calls Try.prog 15 #[.int .u64 N.x, .int .i64 (lbE N.ents k : Nat)] W fun e w' => e = .returned (.tuple #[.int .u64 0, .int .i64 0, .int .i64 120]) ∧ Below W.heap.size W w' := hI
      have HN := Lib.hid hN
      clear hN hok hh hk hR hr hI hu
      generalize lbE N.ents k = at_ at *
      go_enter Try.func26, Try.ntmps26
      go_upto_region 7 with (go_at_call 58; refine hF.mono ?_; rintro e w2 ⟨rfl, b2⟩)
      have c2 := (b2.cell (p := ⟨g, 0, none⟩) hgl).trans c0
      clear c0
      go_wp2_with (go_at_call 15; refine (hI2 _).mono ?_; rintro e w3 ⟨rfl, b3⟩)
      go_ret3
      rw [HR.out]
      exact ⟨rfl, HN.out.below (b2.trans (b3.mono b2.size)) hgl, Chg.of_below (b2.trans (b3.mono b2.size)) [g]⟩
    · have hu' : N.u < 15 := by have := hok.u15; omega
      have hr : putM N k v = (⟨wordL (N.u + 1) (mvL N.l N.u (lbE N.ents k)), N.K.set (N.slot N.u) k, N.V.set (N.slot N.u) v, N.ins + 1, N.spl⟩, 0, false, 0) := by unfold putM; rw [if_neg hk, if_neg (by rw [hh]; simp), if_neg hu]
      have HR := Lib.hid (hR.trans hr)
      have hs := slot_lt hok hu'
      rw [ins_new hok hu' hle] at hI
      have hI2 : ∀ W, Calls Try.prog 15 #[.int .u64 N.x, .int .i64 (lbE N.ents k : Nat)] W fun e w' => e = .returned (.tuple #[.int .u64 (wordL (N.u + 1) (mvL N.l N.u (lbE N.ents k)) : Nat), .int .i64 (N.slot N.u : Nat), .int .i64 0]) ∧ Below W.heap.size W w' := hI
      have c31 := hN.at 31 (nd_at31 hok.kl hok.vl)
      have k1 := hN.at (1 + N.slot N.u) (nd_atK hok.kl hs)
      have k16 := hN.at (16 + N.slot N.u) (nd_atV hok.kl hok.vl hs)
      generalize N.K.getD (N.slot N.u) emp = ok1 at k1
      generalize N.V.getD (N.slot N.u) 0 = ov1 at k16
      have hset : ∀ x' s', s' < 15 → ((((ndCells N).setIfInBounds (1 + s') (.string k)).setIfInBounds (16 + s') (.int .i64 v)).setIfInBounds 0 (.int .u64 (x' : Nat))).setIfInBounds 31 (.int .i64 (N.ins + 1 : Nat)) = ndCells ⟨x', N.K.set s' k, N.V.set s' v, N.ins + 1, N.spl⟩ := fun x' s' hs' => by
        have h1 : (N.K.set s' k).length = 15 := by simpa using hok.kl
        have h2 : (N.V.set s' v).length = 15 := by simpa using hok.vl
        rw [nd_setK hok.kl hs', nd_setV (N := ⟨N.x, N.K.set s' k, N.V, N.ins, N.spl⟩) h1 hok.vl hs', nd_set0, nd_set31 (N := ⟨x', N.K.set s' k, N.V.set s' v, N.ins, N.spl⟩) h1 h2]
      have HSET := Lib.hid hset
      have HN := Lib.hid hN
      clear hN hok hh hk hR hr hI hu hset
      generalize hat : lbE N.ents k = at_ at *
      generalize hxw : wordL (N.u + 1) (mvL N.l N.u at_) = x2 at *
      generalize hss : N.slot N.u = s at *
      have HAT := Lib.hid hat
      have HXW := Lib.hid hxw
      have HSS := Lib.hid hss
      clear hat hxw hss
      have hs2 : (s : Int) < 15 := by omega
      go_enter Try.func26, Try.ntmps26
      go_upto_region 7 with (go_at_call 58; refine hF.mono ?_; rintro e w2 ⟨rfl, b2⟩)
      have c2 := (b2.cell (p := ⟨g, 0, none⟩) hgl).trans c0
      clear c0
      go_upto_region 10 with (go_at_call 15; refine (hI2 _).mono ?_; rintro e w3 ⟨rfl, b3⟩)
      have b23 := b2.trans (b3.mono b2.size)
      have hN3 := HN.out.below b23 hgl
      have c31' := (b23.cell (p := ⟨g, 31, none⟩) hgl).trans c31
      have k1' := (b23.cell (p := ⟨g, 1 + s, none⟩) hgl).trans k1
      have k16' := (b23.cell (p := ⟨g, 16 + s, none⟩) hgl).trans k16
      have c0' := (b3.cell (p := ⟨g, 0, none⟩) (by have := b2.size; show g < w2.heap.size; omega)).trans c2
      have f0 := hN3.free 0
      have f1 := hN3.free (1 + s)
      have f16 := hN3.free (16 + s)
      have f31 := hN3.free 31
      have HN3 := Lib.hid hN3
      have HB := Lib.hid b23
      clear hN3 b23 c31 c2 hF hI2 k1 k16
      have e1 : (1 + s : Nat) ≠ 0 := by omega
      go_region
      all_goals
        go_wp2_with fail
        go_ret3
        rw [HR.out]
        refine ⟨rfl, ?_, (((((Chg.of_below HB.out [g]).drew).setCell (.inl (by simp)) _).setCell (.inl (by simp)) _).setCell (.inl (by simp)) _).setCell (.inl (by simp)) _⟩
        have hb := ((((HN3.out.drew.set (1 + s) (.string k)).set (16 + s) (.int .i64 v)).set 0 (.int .u64 (x2 : Nat))).set 31 (.int .i64 (N.ins + 1 : Nat)))
        rw [HSET.out x2 s (by omega)] at hb
        exact hb

end Go.Proofs.Ythplnecnagbedaa
