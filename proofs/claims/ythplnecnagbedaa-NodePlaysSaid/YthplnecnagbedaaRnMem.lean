/- The reference's node in memory: five cells and two rows; its place, Get, Take and Put by contract; conditions: none. -/
import Derived.Test.YthplnecnagbedaaNdTake
import Derived.Test.YthplnecnagbedaaNtRef3
import Derived.Test.YthplnecnagbedaaAppends
import Derived.BigQuiet
import Derived.Deep.QuietTactic
import Derived.IntWalk
namespace Go.Proofs.Ythplnecnagbedaa
open Go.RowKit

def rCells (kb vb : Nat) (N : Nd) : Array Value := #[.int .u64 N.x, .slice (some ⟨kb, 0, none⟩) 15 15, .slice (some ⟨vb, 0, none⟩) 15 15, .int .i64 N.ins, .int .i64 N.spl]
def kCells (N : Nd) : Array Value := (N.K.map Value.string).toArray
def vCells (N : Nd) : Array Value := (N.V.map (Value.int .i64)).toArray
structure RNd (w : World) (r kb vb : Nat) (N : Nd) : Prop where
  top : Blk w r 101 (rCells kb vb N)
  keys : Blk w kb 9 (kCells N)
  vals : Blk w vb 3 (vCells N)
section
variable {w w' : World} {r kb vb : Nat} {N : Nd}
theorem RNd.below {B : Nat} (h : RNd w r kb vb N) (hb : Below B w w') (h1 : r < B) (h2 : kb < B) (h3 : vb < B) : RNd w' r kb vb N := ⟨h.top.below hb h1, h.keys.below hb h2, h.vals.below hb h3⟩
theorem RNd.next (h : RNd w r kb vb N) (hb : Below w.heap.size w w') : RNd w' r kb vb N := h.below hb h.top.lt h.keys.lt h.vals.lt
theorem RNd.chg {l : List Nat} (h : RNd w r kb vb N) (hc : Chg l w w') (h1 : r ∉ l) (h2 : kb ∉ l) (h3 : vb ∉ l) : RNd w' r kb vb N := ⟨h.top.chg hc h1, h.keys.chg hc h2, h.vals.chg hc h3⟩
theorem RNd.drewN (h : RNd w r kb vb N) (q : Nat) : RNd (w.drewN q) r kb vb N := ⟨h.top.drewN q, h.keys.drewN q, h.vals.drewN q⟩
theorem RNd.rk (h : RNd w r kb vb N) : r ≠ kb := h.top.ne h.keys (by decide)
theorem RNd.rv (h : RNd w r kb vb N) : r ≠ vb := h.top.ne h.vals (by decide)
theorem RNd.kv (h : RNd w r kb vb N) : kb ≠ vb := h.keys.ne h.vals (by decide)
theorem RNd.key (h : RNd w r kb vb N) (hK : N.K.length = 15) {s : Nat} (hs : s < 15) : w.cell? ⟨kb, s, none⟩ = some (.string (N.K.getD s emp)) := h.keys.at s (by unfold kCells; simp [List.getD, hK, hs])
theorem RNd.val (h : RNd w r kb vb N) (hV : N.V.length = 15) {s : Nat} (hs : s < 15) : w.cell? ⟨vb, s, none⟩ = some (.int .i64 (N.V.getD s 0)) := h.vals.at s (by unfold vCells; simp [List.getD, hV, hs])
end
theorem parts_nd (w : World) (N : Nd) (hok : NdOk N) : Calls Try.prog 56 #[.int .u64 N.x] w fun e w' => ∃ b cap, e = .returned (.tuple #[.int .i64 (N.u : Nat), .slice (some ⟨b, 0, none⟩) 15 cap]) ∧ (∀ j, j < 15 → w'.cell? ⟨b, j, none⟩ = some (.int .i64 (N.slot j : Nat))) ∧ Below w.heap.size w w' := by
  refine (parts_any w N.x hok.lt).mono ?_
  rintro e w' ⟨v, rfl, hO, hb⟩
  have hl := slots_len N.x
  unfold OwnN at hO
  rw [hl] at hO
  obtain ⟨g, cap, rfl, _, _, _, hc, _⟩ := own_cells hO (by omega)
  refine ⟨g, cap, rfl, fun j hj => hc j _ ?_, hb⟩
  unfold pvl Nd.slot Nd.l
  simp [List.getD, hl, hj]

def placeM (N : Nd) (k : ByteArray) : Nat × Nat × Bool := (lbE N.ents k, if lbE N.ents k < N.u then N.slot (lbE N.ents k) else 0, hasE N.ents k)
theorem place_at {N : Nd} {k : ByteArray} {i : Nat} (hi : i < N.u) (h1 : ∀ j, j < i → bl (N.K.getD (N.slot j) emp) k = true) (h2 : bl (N.K.getD (N.slot i) emp) k = false) : placeM N k = (i, N.slot i, decide (N.K.getD (N.slot i) emp = k)) := by
  have hl := ents_len N
  have e : ∀ j, j < N.u → (N.ents.getD j (emp, 0)).1 = N.K.getD (N.slot j) emp := fun j hj => by rw [ents_at N hj]; rfl
  have hb : lbE N.ents k = i := lbE_of (by omega) (fun j hj => by rw [e j (by omega)]; exact h1 j hj) (fun _ => by rw [e i hi]; exact h2)
  unfold placeM hasE
  rw [hb, if_pos hi]
  have e2 : (N.ents[i]?).map (·.1) = some (N.K.getD (N.slot i) emp) := by
    rw [← e i hi]
    have : i < N.ents.length := by omega
    simp [List.getD, this]
  rw [e2]
  simp only [Option.some.injEq]
theorem place_end {N : Nd} {k : ByteArray} (h1 : ∀ j, j < N.u → bl (N.K.getD (N.slot j) emp) k = true) : placeM N k = (N.u, 0, false) := by
  have hl := ents_len N
  have e : ∀ j, j < N.u → (N.ents.getD j (emp, 0)).1 = N.K.getD (N.slot j) emp := fun j hj => by rw [ents_at N hj]; rfl
  have hb : lbE N.ents k = N.u := lbE_of (by omega) (fun j hj => by rw [e j hj]; exact h1 j hj) (fun h => by omega)
  unfold placeM hasE
  rw [hb, if_neg (by omega), List.getElem?_eq_none (by omega)]
  rfl

set_option maxRecDepth 100000 in
theorem rplace_any (w : World) (r kb vb : Nat) (N : Nd) (hok : NdOk N) (hR : RNd w r kb vb N) (k : ByteArray) :
    Calls Try.prog 60 #[.pointer (some ⟨r, 0, none⟩), .string k] w fun e w' => e = .returned (.tuple #[.int .i64 (placeM N k).1, .int .i64 (placeM N k).2.1, .bool (placeM N k).2.2]) ∧ Below w.heap.size w w' := by
  obtain ⟨P, hP⟩ : ∃ P, P = placeM N k := ⟨_, rfl⟩
  rw [← hP]
  have HP := Lib.hid hP
  have hp := fun W => parts_nd W N hok
  have c0 : w.cell? ⟨r, 0, none⟩ = some (.int .u64 N.x) := hR.top.at 0 rfl
  have HR := Lib.hid hR
  have HOK := Lib.hid hok
  have hu15 := hok.u15
  clear hP hR hok
  go_enter Try.func60, Try.ntmps60
  go_upto_region 2 with (go_at_call 56; refine (hp _).mono ?_; rintro e w2 ⟨b, cap, rfl, hc, b2⟩)
  have hR2 := HR.out.next b2
  have c1 : w2.cell? ⟨r, 1, none⟩ = some (.slice (some ⟨kb, 0, none⟩) 15 15) := hR2.top.at 1 rfl
  have HR2 := Lib.hid hR2
  have HC := Lib.hid hc
  clear hR2 hc c0 hp
  go_wp2_with fail
  go_loopg [9] N.u (fun gn i wr => ∃ (t q : Nat), t ≤ N.u ∧ i = .int .i64 t ∧ gn = N.u - t ∧ (∀ j, j < t → bl (N.K.getD (N.slot j) emp) k = true) ∧ wr = w2.drewN q)
  case atStart => exact ⟨0, 0, Nat.zero_le _, rfl, rfl, fun j hj => by omega, rfl⟩
  case round =>
    obtain ⟨t, q, ht, rfl, rfl, hlow, rfl⟩ := hrel
    by_cases htu : t < N.u
    · have hs := slot_lt HOK.out (i := t) (by omega)
      have c2 := HC.out t (by omega)
      have c3 := HR2.out.key HOK.out.kl hs
      have hpl : bl (N.K.getD (N.slot t) emp) k = false → placeM N k = (t, N.slot t, decide (N.K.getD (N.slot t) emp = k)) := fun h => place_at htu hlow h
      have hlow' : bl (N.K.getD (N.slot t) emp) k = true → ∀ j, j < t + 1 → bl (N.K.getD (N.slot j) emp) k = true := fun h j hj => by
        by_cases e : j = t
        · subst e; exact h
        · exact hlow j (by omega)
      have HPL := Lib.hid hpl
      have HLOW := Lib.hid hlow'
      clear hpl hlow' hlow
      generalize N.slot t = s at *
      generalize N.K.getD s emp = kk at *
      cases hb : bl kk k with
      | true =>
        have hb1 : Op.bytesLess kk.toList k.toList = true := hb
        have HL := Lib.hid (HLOW.out hb)
        clear hb
        go_upto_region 5 with fail
        go_quiet (fail)
        go_wp2_with fail
        go_roundg (N.u - (t + 1))
        case rel => exact ⟨t + 1, _, by omega, by go_num, rfl, HL.out, rfl⟩
        case measure => omega
      | false =>
        have hb1 : Op.bytesLess kk.toList k.toList = false := hb
        have HPT := Lib.hid (HP.out.trans (HPL.out hb))
        have hdec : (kk.toList == k.toList) = decide (kk = k) := by rw [beqL]
        clear hb
        go_upto_region 5 with fail
        go_quiet (fail)
        go_upto_region 6 with fail
        go_quiet (fail)
        go_wp2_with fail
        go_ret3
        rw [HPT.out]
        exact ⟨by first | rfl | simp only [hdec], below_drewN (below_drewN (below_drewN b2 _) _) _⟩
    · obtain rfl : t = N.u := by omega
      have HPT := Lib.hid (HP.out.trans (place_end hlow))
      clear hlow
      go_wp2_with fail
      go_ret3
      rw [HPT.out]
      exact ⟨rfl, below_drewN b2 _⟩

theorem rk_set (N : Nd) (s : Nat) (k : ByteArray) (x i p : Nat) (V : List Int) : (kCells N).setIfInBounds s (.string k) = kCells ⟨x, N.K.set s k, V, i, p⟩ := by
  unfold kCells; rw [List.setIfInBounds_toArray, List.map_set]
theorem rv_set (N : Nd) (s : Nat) (v : Int) (x i p : Nat) (K : List ByteArray) : (vCells N).setIfInBounds s (.int .i64 v) = vCells ⟨x, K, N.V.set s v, i, p⟩ := by
  unfold vCells; rw [List.setIfInBounds_toArray, List.map_set]
theorem place_yes {N : Nd} {k : ByteArray} (hh : hasE N.ents k = true) : placeM N k = (lbE N.ents k, N.slot (lbE N.ents k), true) := by
  unfold placeM; rw [if_pos (lb_u hh), hh]
theorem place_no {N : Nd} {k : ByteArray} (hh : hasE N.ents k = false) : ∃ y, placeM N k = (lbE N.ents k, y, false) := ⟨_, by unfold placeM; rw [hh]⟩

theorem rget_any (w : World) (r kb vb : Nat) (N : Nd) (hok : NdOk N) (hR : RNd w r kb vb N) (k : ByteArray) :
    Calls Try.prog 36 #[.pointer (some ⟨r, 0, none⟩), .string k] w fun e w' => e = .returned (.tuple #[.int .i64 (getM N k).1, .bool (getM N k).2]) ∧ Below w.heap.size w w' := by
  have hF := rplace_any w r kb vb N hok hR k
  obtain ⟨R, hRR⟩ : ∃ R, R = getM N k := ⟨_, rfl⟩
  rw [← hRR]
  cases hh : hasE N.ents k with
  | true =>
    have hg : getM N k = (N.V.getD (N.slot (lbE N.ents k)) 0, true) := by unfold getM; rw [V_at hh]
    have HRR := Lib.hid (hRR.trans hg)
    have hlu := lb_u hh
    have hu15 := hok.u15
    have hs := slot_lt hok (i := lbE N.ents k) (by omega)
    rw [place_yes hh] at hF
    have hv := hR.val hok.vl hs
    have HR := Lib.hid hR
    clear hh hg hRR hok hR
    generalize N.slot (lbE N.ents k) = s at *
    generalize N.V.getD s 0 = v at *
    generalize lbE N.ents k = at_ at *
    go_enter Try.func36, Try.ntmps36
    go_wp2_with (go_at_call 60; refine hF.mono ?_; rintro e w2 ⟨rfl, b2⟩; have hR2 := HR.out.next b2; have c2 : w2.cell? ⟨r, 2, none⟩ = some (.slice (some ⟨vb, 0, none⟩) 15 15) := hR2.top.at 2 rfl; have cv := (b2.cell (p := ⟨vb, s, none⟩) HR.out.vals.lt).trans hv; clear hR2)
    go_ret2
    rw [HRR.out]
    exact ⟨rfl, b2⟩
  | false =>
    have hg : getM N k = (0, false) := by unfold getM; rw [get_has hh]
    have HRR := Lib.hid (hRR.trans hg)
    obtain ⟨y, hy⟩ := place_no hh
    rw [hy] at hF
    clear hh hg hRR hy hR hok
    go_enter Try.func36, Try.ntmps36
    go_wp2_with (go_at_call 60; refine hF.mono ?_; rintro e w2 ⟨rfl, b2⟩)
    go_ret2
    rw [HRR.out]
    exact ⟨rfl, b2⟩

def RTake (w : World) (r kb vb : Nat) (R : Nd × Int × Int) (e : Ending) (w' : World) : Prop := e = .returned (.tuple #[.int .i64 R.2.1, .int .i64 R.2.2]) ∧ RNd w' r kb vb R.1 ∧ Chg [r, kb, vb] w w'
set_option maxRecDepth 100000 in
theorem rtake_any (w : World) (r kb vb : Nat) (N : Nd) (hok : NdOk N) (hi : N.ins < 4611686018427387904) (hR : RNd w r kb vb N) (k : ByteArray) :
    Calls Try.prog 37 #[.pointer (some ⟨r, 0, none⟩), .string k] w (RTake w r kb vb (takeM N k)) := by
  have hF := rplace_any w r kb vb N hok hR k
  obtain ⟨R, hRR⟩ : ∃ R, R = takeM N k := ⟨_, rfl⟩
  rw [← hRR]
  cases hh : hasE N.ents k with
  | true =>
    have hlu := lb_u hh
    have hu15 := hok.u15
    have hr : takeM N k = (⟨wordL (N.u - 1) (mvL N.l (lbE N.ents k) (N.u - 1)), N.K, N.V, N.ins + 1, N.spl⟩, N.V.getD (N.slot (lbE N.ents k)) 0, 0) := by unfold takeM; rw [if_pos hh]
    have HRR := Lib.hid (hRR.trans hr)
    have hs := slot_lt hok (i := lbE N.ents k) (by omega)
    have hI := fun W => rremove_any W N.x hok.lt (lbE N.ents k : Nat)
    rw [rem_old hok hlu] at hI
    have hI2 : ∀ W, Calls Try.prog 18 #[.int .u64 N.x, .int .i64 (lbE N.ents k : Nat)] W fun e w' => e = .returned (.tuple #[.int .u64 (wordL (N.u - 1) (mvL N.l (lbE N.ents k) (N.u - 1)) : Nat), .int .i64 (N.slot (lbE N.ents k) : Nat), .int .i64 0]) ∧ Below W.heap.size W w' := hI
    rw [place_yes hh] at hF
    have hv := hR.val hok.vl hs
    have HR := Lib.hid hR
    have hrv := hR.rv
    have hvr := hR.rv.symm
    clear hok hh hr hRR hI hR
    generalize wordL (N.u - 1) (mvL N.l (lbE N.ents k) (N.u - 1)) = x2 at *
    generalize N.slot (lbE N.ents k) = s at *
    generalize N.V.getD s 0 = v at *
    generalize lbE N.ents k = at_ at *
    go_enter Try.func37, Try.ntmps37
    go_upto_region 4 with (go_at_call 60; refine hF.mono ?_; rintro e w2 ⟨rfl, b2⟩; have hR2 := HR.out.next b2; have c0 : w2.cell? ⟨r, 0, none⟩ = some (.int .u64 N.x) := hR2.top.at 0 rfl; have HR2 := Lib.hid hR2; clear hR2)
    go_wp2_with (go_at_call 18; refine (hI2 _).mono ?_; rintro e w3 ⟨rfl, b3⟩; have b23 := b2.trans (b3.mono b2.size); have hR3 := HR2.out.next b3; have c2 : w3.cell? ⟨r, 2, none⟩ = some (.slice (some ⟨vb, 0, none⟩) 15 15) := hR3.top.at 2 rfl; have c3 : w3.cell? ⟨r, 3, none⟩ = some (.int .i64 (N.ins : Nat)) := hR3.top.at 3 rfl; have c00 : w3.cell? ⟨r, 0, none⟩ = some (.int .u64 N.x) := hR3.top.at 0 rfl; have cv := (b23.cell (p := ⟨vb, s, none⟩) HR.out.vals.lt).trans hv; have f0 := hR3.top.free 0; have f3 := hR3.top.free 3; have HR3 := Lib.hid hR3; clear hR3)
    go_ret2
    rw [HRR.out]
    refine ⟨rfl, ⟨?_, ?_, ?_⟩, ((Chg.of_below b23 [r, kb, vb]).setCell (.inl (by simp)) _).setCell (.inl (by simp)) _⟩
    · exact (HR3.out.top.set 0 _).set 3 _
    · exact HR3.out.keys.chg (((Chg.refl [r] _).setCell (.inl (by simp)) _).setCell (.inl (by simp)) _) (by simpa using HR3.out.rk.symm)
    · exact HR3.out.vals.chg (((Chg.refl [r] _).setCell (.inl (by simp)) _).setCell (.inl (by simp)) _) (by simpa using HR3.out.rv.symm)
  | false =>
    have hr : takeM N k = (N, 0, 5) := by unfold takeM; rw [if_neg (by rw [hh]; simp)]
    have HRR := Lib.hid (hRR.trans hr)
    obtain ⟨y, hy⟩ := place_no hh
    rw [hy] at hF
    have HR := Lib.hid hR
    clear hok hh hRR hr hy hR
    go_enter Try.func37, Try.ntmps37
    go_wp2_with (go_at_call 60; refine hF.mono ?_; rintro e w2 ⟨rfl, b2⟩)
    go_ret2
    rw [HRR.out]
    exact ⟨rfl, HR.out.next b2, Chg.of_below b2 _⟩

end Go.Proofs.Ythplnecnagbedaa
