/- New, Take, Order, Counts of a node, each by its contract; conditions: the node is one, and lies in memory. -/
import Derived.Test.YthplnecnagbedaaNdPut
namespace Go.Proofs.Ythplnecnagbedaa
open Go.RowKit

def TakePost (w : World) (g : Nat) (r : Nd × Int × Int) (e : Ending) (w' : World) : Prop :=
  e = .returned (.tuple #[.int .i64 r.2.1, .int .i64 r.2.2]) ∧ Blk w' g 95 (ndCells r.1) ∧ Chg [g] w w'
set_option maxRecDepth 100000 in
set_option maxHeartbeats 1000000 in
theorem take_any (w : World) (g : Nat) (N : Nd) (hok : NdOk N) (hi : N.ins < 4611686018427387904) (hN : Blk w g 95 (ndCells N)) (k : ByteArray) :
    Calls Try.prog 28 #[.pointer (some ⟨g, 0, none⟩), .string k] w (TakePost w g (takeM N k)) := by
  have hF := find_any w g N hok hN k
  have hgl := hN.lt
  obtain ⟨R, hR⟩ : ∃ R, R = takeM N k := ⟨_, rfl⟩
  rw [← hR]
  cases hh : hasE N.ents k with
  | true =>
    have hlu := lb_u hh
    have hu15 := hok.u15
    have hr : takeM N k = (⟨wordL (N.u - 1) (mvL N.l (lbE N.ents k) (N.u - 1)), N.K, N.V, N.ins + 1, N.spl⟩, N.V.getD (N.slot (lbE N.ents k)) 0, 0) := by unfold takeM; rw [if_pos hh]
    have HR := Lib.hid (hR.trans hr)
    have hs := slot_lt hok (i := lbE N.ents k) (by omega)
    have c0 : w.cell? ⟨g, 0, none⟩ = some (.int .u64 N.x) := hN.at 0 nd_at0
    have hI := fun W => remove_any W N.x hok.lt (lbE N.ents k : Nat)
    rw [rem_old hok hlu] at hI
    have hI2 : ∀ W, Calls Try.prog 17 #[.int .u64 N.x, .int .i64 (lbE N.ents k : Nat)] W fun e w' => e = .returned (.tuple #[.int .u64 (wordL (N.u - 1) (mvL N.l (lbE N.ents k) (N.u - 1)) : Nat), .int .i64 (N.slot (lbE N.ents k) : Nat), .int .i64 0]) ∧ Below W.heap.size W w' := hI
    have c31 := hN.at 31 (nd_at31 hok.kl hok.vl)
    have k16 := hN.at (16 + N.slot (lbE N.ents k)) (nd_atV hok.kl hok.vl hs)
    rw [find_yes hh] at hF
    have hset : ∀ x' : Nat, ((ndCells N).setIfInBounds 0 (.int .u64 x')).setIfInBounds 31 (.int .i64 (N.ins + 1 : Nat)) = ndCells ⟨x', N.K, N.V, N.ins + 1, N.spl⟩ := fun x' => by
      rw [nd_set0, nd_set31 (N := ⟨x', N.K, N.V, N.ins, N.spl⟩) hok.kl hok.vl]
    have HSET := Lib.hid hset
    have HN := Lib.hid hN
    clear hN hok hh hR hr hI hset
    generalize hat : lbE N.ents k = at_ at *
    generalize hxw : wordL (N.u - 1) (mvL N.l at_ (N.u - 1)) = x2 at *
    generalize hss : N.slot at_ = s at *
    generalize hvv : N.V.getD s 0 = v at *
    clear hat hxw hss hvv
    have hs2 : (s : Int) < 15 := by omega
    go_enter Try.func28, Try.ntmps28
    go_upto_region 4 with (go_at_call 58; refine hF.mono ?_; rintro e w2 ⟨rfl, b2⟩)
    have c2 := (b2.cell (p := ⟨g, 0, none⟩) hgl).trans c0
    clear c0
    go_wp2_with (go_at_call 17; refine (hI2 _).mono ?_; rintro e w3 ⟨rfl, b3⟩; have b23 := b2.trans (b3.mono b2.size); have hN3 := HN.out.below b23 hgl; have c31' := (b23.cell (p := ⟨g, 31, none⟩) hgl).trans c31; have k16' := (b23.cell (p := ⟨g, 16 + s, none⟩) hgl).trans k16; have c0' := (b3.cell (p := ⟨g, 0, none⟩) (by have := b2.size; show g < w2.heap.size; omega)).trans c2; have f0 := hN3.free 0; have f31 := hN3.free 31)
    go_ret2
    rw [HR.out]
    refine ⟨rfl, ?_, ((Chg.of_below b23 [g]).setCell (.inl (by simp)) _).setCell (.inl (by simp)) _⟩
    have hb := (hN3.set 0 (.int .u64 (x2 : Nat))).set 31 (.int .i64 (N.ins + 1 : Nat))
    rw [HSET.out x2] at hb
    exact hb
  | false =>
    have hr : takeM N k = (N, 0, 5) := by unfold takeM; rw [if_neg (by rw [hh]; simp)]
    have HR := Lib.hid (hR.trans hr)
    rw [find_no hh] at hF
    have HN := Lib.hid hN
    clear hN hok hh hR hr
    go_enter Try.func28, Try.ntmps28
    go_wp2_with (go_at_call 58; refine hF.mono ?_; rintro e w2 ⟨rfl, b2⟩)
    go_ret2
    rw [HR.out]
    exact ⟨rfl, HN.out.below b2 hgl, Chg.of_below b2 [g]⟩

theorem order_any (w : World) (g : Nat) (N : Nd) (hN : Blk w g 95 (ndCells N)) : Calls Try.prog 30 #[.pointer (some ⟨g, 0, none⟩)] w fun e w' => e = .returned (.int .u64 N.x) ∧ w = w' := by
  have c0 : w.cell? ⟨g, 0, none⟩ = some (.int .u64 N.x) := hN.at 0 nd_at0
  clear hN
  go_enter Try.func30, Try.ntmps30
  go_wp2
  go_ret
  exact ⟨rfl, rfl⟩
theorem counts_any (w : World) (g : Nat) (N : Nd) (hK : N.K.length = 15) (hV : N.V.length = 15) (hN : Blk w g 95 (ndCells N)) : Calls Try.prog 33 #[.pointer (some ⟨g, 0, none⟩)] w fun e w' => e = .returned (.tuple #[.int .i64 N.ins, .int .i64 N.spl]) ∧ ∃ q, w' = w.drewN q := by
  have c31 := hN.at 31 (nd_at31 hK hV)
  have c32 := hN.at 32 (nd_at32 hK hV)
  clear hN
  go_enter Try.func33, Try.ntmps33
  go_upto_region 1 with fail
  go_quiet (fail)
  go_wp2_with fail
  go_ret2
  exact ⟨rfl, _, rfl⟩
set_option maxRecDepth 100000 in
theorem new_any (w : World) : Calls Try.prog 24 #[] w fun e w' => e = .returned (.pointer (some ⟨w'.heap.size - 1, 0, none⟩)) ∧ Blk w' (w'.heap.size - 1) 95 (ndCells nd0) ∧ Below w.heap.size w w' ∧ w.heap.size < w'.heap.size := by
  have hE := empty_any
  go_enter Try.func24, Try.ntmps24
  go_wp2_with (go_at_call 19; refine (hE _).mono ?_; rintro e w2 ⟨rfl, b2⟩)
  go_ret
  have hs : (w2.alloc (.cells (ndCells nd0) 95)).heap.size - 1 = w2.heap.size := by simp
  refine ⟨?_, ?_, b2.alloc b2.size _, by simp; have := b2.size; omega⟩
  · simp
  · simp only [World.size_alloc, Nat.add_sub_cancel]
    exact Blk.new w2 95 (ndCells nd0)

end Go.Proofs.Ythplnecnagbedaa
