/- The reference's Put by contract; conditions: none. -/
import Derived.Test.YthplnecnagbedaaRnMem
namespace Go.Proofs.Ythplnecnagbedaa
open Go.RowKit

def RPut (w : World) (r kb vb : Nat) (R : Nd × Int × Bool × Int) (e : Ending) (w' : World) : Prop := e = .returned (.tuple #[.int .i64 R.2.1, .bool R.2.2.1, .int .i64 R.2.2.2]) ∧ RNd w' r kb vb R.1 ∧ Chg [r, kb, vb] w w'
set_option maxRecDepth 100000 in
set_option maxHeartbeats 1000000 in
theorem rput_any (w : World) (r kb vb : Nat) (N : Nd) (hok : NdOk N) (hi : N.ins < 4611686018427387904) (hR : RNd w r kb vb N) (k : ByteArray) (v : Int) :
    Calls Try.prog 35 #[.pointer (some ⟨r, 0, none⟩), .string k, .int .i64 v] w (RPut w r kb vb (putM N k v)) := by
  have hF := rplace_any w r kb vb N hok hR k
  obtain ⟨R, hRR⟩ : ∃ R, R = putM N k v := ⟨_, rfl⟩
  rw [← hRR]
  by_cases hk : 4096 < k.size
  · have hr : putM N k v = (N, 0, false, 2) := by unfold putM; rw [if_pos hk]
    have HRR := Lib.hid (hRR.trans hr)
    have HR := Lib.hid hR
    clear hR hok hF hr hRR
    have hk' : (4096 : Int) < (k.size : Int) := by omega
    go_enter Try.func35, Try.ntmps35
    go_wp2_with fail
    go_ret3
    rw [HRR.out]
    exact ⟨rfl, HR.out, Chg.refl _ _⟩
  have hk' : ¬ ((4096 : Int) < (k.size : Int)) := by omega
  have hrk := hR.rk
  have hkr := hR.rk.symm
  have hrv := hR.rv
  have hvr := hR.rv.symm
  have hkv := hR.kv
  have hvk := hR.kv.symm
  cases hh : hasE N.ents k with
  | true =>
    have hr : putM N k v = (⟨N.x, N.K, N.V.set (N.slot (lbE N.ents k)) v, N.ins, N.spl⟩, N.V.getD (N.slot (lbE N.ents k)) 0, true, 0) := by unfold putM; rw [if_neg hk, if_pos hh]
    have HRR := Lib.hid (hRR.trans hr)
    have hs := slot_lt hok (i := lbE N.ents k) (by have := lb_u hh; have := hok.u15; omega)
    rw [place_yes hh] at hF
    have hv := hR.val hok.vl hs
    have HR := Lib.hid hR
    clear hok hh hr hRR hR hk
    generalize N.slot (lbE N.ents k) = s at *
    generalize N.V.getD s 0 = v0 at *
    generalize lbE N.ents k = at_ at *
    have hs2 : (s : Int) < 15 := by omega
    go_enter Try.func35, Try.ntmps35
    go_wp2_with (go_at_call 60; refine hF.mono ?_; rintro e w2 ⟨rfl, b2⟩; have hR2 := HR.out.next b2; have c2 : w2.cell? ⟨r, 2, none⟩ = some (.slice (some ⟨vb, 0, none⟩) 15 15) := hR2.top.at 2 rfl; have cv := (b2.cell (p := ⟨vb, s, none⟩) HR.out.vals.lt).trans hv; have fv := hR2.vals.free s; have HR2 := Lib.hid hR2; clear hR2)
    go_ret3
    rw [HRR.out]
    refine ⟨rfl, ⟨?_, ?_, ?_⟩, (Chg.of_below b2 [r, kb, vb]).setCell (.inl (by simp)) _⟩
    · exact HR2.out.top.chg ((Chg.refl [vb] _).setCell (.inl (by simp)) _) (by simpa using HR2.out.rv)
    · exact HR2.out.keys.chg ((Chg.refl [vb] _).setCell (.inl (by simp)) _) (by simpa using HR2.out.kv)
    · have := HR2.out.vals.set s (.int .i64 v)
      rw [rv_set N s v N.x N.ins N.spl N.K] at this
      exact this
  | false =>
    have hle := lb_le (N := N) k
    obtain ⟨y, hy⟩ := place_no hh
    rw [hy] at hF
    have hI := fun W => rinsert_any W N.x hok.lt (lbE N.ents k : Nat)
    by_cases hu : N.u = 15
    · have hr : putM N k v = (N, 0, false, 120) := by unfold putM; rw [if_neg hk, if_neg (by rw [hh]; simp), if_pos hu]
      have HRR := Lib.hid (hRR.trans hr)
      rw [ins_full hok hu] at hI
      have hI2 : ∀ W, Calls Try.prog 16 #[.int .u64 N.x, .int .i64 (lbE N.ents k : Nat)] W fun e w' => e = .returned (.tuple #[.int .u64 0, .int .i64 0, .int .i64 120]) ∧ Below W.heap.size W w' := hI
      have HR := Lib.hid hR
      clear hR hok hh hk hRR hr hI hu hy
      generalize lbE N.ents k = at_ at *
      go_enter Try.func35, Try.ntmps35
      go_upto_region 8 with (go_at_call 60; refine hF.mono ?_; rintro e w2 ⟨rfl, b2⟩; have hR2 := HR.out.next b2; have c0 : w2.cell? ⟨r, 0, none⟩ = some (.int .u64 N.x) := hR2.top.at 0 rfl; have HR2 := Lib.hid hR2; clear hR2)
      go_wp2_with (go_at_call 16; refine (hI2 _).mono ?_; rintro e w3 ⟨rfl, b3⟩)
      go_ret3
      rw [HRR.out]
      exact ⟨rfl, HR2.out.next b3, Chg.of_below (b2.trans (b3.mono b2.size)) _⟩
    · have hu' : N.u < 15 := by have := hok.u15; omega
      have hr : putM N k v = (⟨wordL (N.u + 1) (mvL N.l N.u (lbE N.ents k)), N.K.set (N.slot N.u) k, N.V.set (N.slot N.u) v, N.ins + 1, N.spl⟩, 0, false, 0) := by unfold putM; rw [if_neg hk, if_neg (by rw [hh]; simp), if_neg hu]
      have HRR := Lib.hid (hRR.trans hr)
      have hs := slot_lt hok hu'
      rw [ins_new hok hu' hle] at hI
      have hI2 : ∀ W, Calls Try.prog 16 #[.int .u64 N.x, .int .i64 (lbE N.ents k : Nat)] W fun e w' => e = .returned (.tuple #[.int .u64 (wordL (N.u + 1) (mvL N.l N.u (lbE N.ents k)) : Nat), .int .i64 (N.slot N.u : Nat), .int .i64 0]) ∧ Below W.heap.size W w' := hI
      have hv := hR.val hok.vl hs
      have hkk := hR.key hok.kl hs
      have HR := Lib.hid hR
      clear hR hok hh hk hRR hr hI hu hy
      generalize wordL (N.u + 1) (mvL N.l N.u (lbE N.ents k)) = x2 at *
      generalize N.slot N.u = s at *
      generalize N.V.getD s 0 = v0 at *
      generalize N.K.getD s emp = k0 at *
      generalize lbE N.ents k = at_ at *
      have hs2 : (s : Int) < 15 := by omega
      go_enter Try.func35, Try.ntmps35
      go_upto_region 8 with (go_at_call 60; refine hF.mono ?_; rintro e w2 ⟨rfl, b2⟩; have hR2 := HR.out.next b2; have c0 : w2.cell? ⟨r, 0, none⟩ = some (.int .u64 N.x) := hR2.top.at 0 rfl; have HR2 := Lib.hid hR2; clear hR2)
      go_wp2_with (go_at_call 16; refine (hI2 _).mono ?_; rintro e w3 ⟨rfl, b3⟩; have b23 := b2.trans (b3.mono b2.size); have hR3 := HR2.out.next b3; have c1 : w3.cell? ⟨r, 1, none⟩ = some (.slice (some ⟨kb, 0, none⟩) 15 15) := hR3.top.at 1 rfl; have c2 : w3.cell? ⟨r, 2, none⟩ = some (.slice (some ⟨vb, 0, none⟩) 15 15) := hR3.top.at 2 rfl; have c3 : w3.cell? ⟨r, 3, none⟩ = some (.int .i64 (N.ins : Nat)) := hR3.top.at 3 rfl; have c00 : w3.cell? ⟨r, 0, none⟩ = some (.int .u64 N.x) := hR3.top.at 0 rfl; have cv := (b23.cell (p := ⟨vb, s, none⟩) HR.out.vals.lt).trans hv; have ck := (b23.cell (p := ⟨kb, s, none⟩) HR.out.keys.lt).trans hkk; have f0 := hR3.top.free 0; have f3 := hR3.top.free 3; have fk := hR3.keys.free s; have fv := hR3.vals.free s; have HR3 := Lib.hid hR3; clear hR3)
      go_ret3
      rw [HRR.out]
      have e0 := HR3.out.rk
      have e1 := HR3.out.rv
      have e2 := HR3.out.kv
      refine ⟨rfl, ⟨?_, ?_, ?_⟩, ((((Chg.of_below b23 [r, kb, vb]).setCell (.inl (by simp)) _).setCell (.inl (by simp)) _).setCell (.inl (by simp)) _).setCell (.inl (by simp)) _⟩
      · (apply Blk.conv; repeat first | with_reducible apply Blk.drew | with_reducible apply Blk.drewN | with_reducible apply Blk.alloc | with_reducible apply Blk.set | (with_reducible apply Blk.far'; (focus (dsimp only; omega))))
        · exact HR3.out.top
        rfl
      · (apply Blk.conv; repeat first | with_reducible apply Blk.drew | with_reducible apply Blk.drewN | with_reducible apply Blk.alloc | with_reducible apply Blk.set | (with_reducible apply Blk.far'; (focus (dsimp only; omega))))
        · exact HR3.out.keys
        exact rk_set N s k x2 (N.ins + 1) N.spl (N.V.set s v)
      · (apply Blk.conv; repeat first | with_reducible apply Blk.drew | with_reducible apply Blk.drewN | with_reducible apply Blk.alloc | with_reducible apply Blk.set | (with_reducible apply Blk.far'; (focus (dsimp only; omega))))
        · exact HR3.out.vals
        exact rv_set N s v x2 (N.ins + 1) N.spl (N.K.set s k)

end Go.Proofs.Ythplnecnagbedaa
