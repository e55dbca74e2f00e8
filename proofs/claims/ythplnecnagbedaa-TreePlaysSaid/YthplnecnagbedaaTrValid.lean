/- Valid of the tree by contract: the closure, the library's search; conditions: the tree lies in memory; what was seen are its leaves. -/
import Derived.Test.YthplnecnagbedaaTrGet
import Derived.Deep.RegionHeld3
namespace Go.Proofs.Ythplnecnagbedaa
open Go.RowKit

theorem call68 : ∀ (args : Array Value) (W : World), (callFunc 68 args).run Try.prog W = .ok (.enter 68 args) W := fun _ _ => by kernel_rfl
/-- Where the code finds a leaf by its number. -/
theorem TreeAt.num {B n : Nat} {w : World} {M : TrM} {T : Tr} {l : Lf} (h : TreeAt B w M T n) (hl : l ∈ T) : ∃ b, M.a2 = some ⟨b, 0, none⟩ ∧ b < w.heap.size ∧ w.cell? ⟨b, l.num, none⟩ = some (.pointer (some ⟨M.lb l.num, 0, none⟩)) := by
  have hlt := h.nums.lt l hl
  obtain ⟨g, e1, _, hg, hc⟩ := own_at h.rowN (by omega)
  refine ⟨g, e1, hg, hc l.num _ ?_⟩
  rw [List.getElem?_map, h.at hlt]
  rfl
set_option maxRecDepth 100000 in
set_option maxHeartbeats 1000000 in
theorem valid1 (w : World) (B n : Nat) (M : TrM) (T : Tr) (hT : TreeAt B w M T n) (hok : TrOk T) (_hm : T.length ≤ 1000000) (bx : Nat) (hbx : w.cell? ⟨bx, 0, none⟩ = some (.pointer (some ⟨M.tb, 0, none⟩))) (hbl : bx < w.heap.size) (num ins spl : Nat) (hs : ∃ l ∈ T, l.num = num) :
    Calls Try.prog 68 #[.agg #[.int .i64 (num : Nat), .int .i64 (ins : Nat), .int .i64 (spl : Nat)], .pointer (some ⟨bx, 0, none⟩)] w fun e w' => e = .returned (.bool (!okL T (num, ins, spl))) ∧ Below w.heap.size w w' := by
  obtain ⟨l, hl, rfl⟩ := hs
  have hv := okL_of hT.nums hl (s := (l.num, ins, spl)) rfl
  have hlt := hT.nums.lt l hl
  obtain ⟨g2, e2, hg2, c3⟩ := hT.num hl
  have hokl := hok.ok l hl
  have hS : ∀ W, Below w.heap.size w W → _ := fun W hW => seen_any W (M.lb l.num) (M.nb l.num) l.num l.least l.nd hokl.kl hokl.vl ((hT.below hW).leaf l hl) ((hT.below hW).node l hl)
  have hW1 : Below w.heap.size w (w.alloc (.cells #[.int .i64 (l.num : Nat), .int .i64 (ins : Nat), .int .i64 (spl : Nat)] 118)) := (Below.refl _ w).alloc (Nat.le_refl _) _
  have hB1 : Blk (w.alloc (.cells #[.int .i64 (l.num : Nat), .int .i64 (ins : Nat), .int .i64 (spl : Nat)] 118)) w.heap.size 118 #[.int .i64 (l.num : Nat), .int .i64 (ins : Nat), .int .i64 (spl : Nat)] := Blk.new _ _ _
  have htl := hT.blk.lt
  have hrd : ∀ W, Below w.heap.size w W → W.cell? ⟨bx, 0, none⟩ = some (.pointer (some ⟨M.tb, 0, none⟩)) ∧ W.cell? ⟨M.tb, 1, none⟩ = some (.slice (some ⟨g2, 0, none⟩) T.length M.k2) ∧ W.cell? ⟨g2, l.num, none⟩ = some (.pointer (some ⟨M.lb l.num, 0, none⟩)) := fun W hW => by
    have c1 := hT.blk.at 1 rfl
    rw [e2] at c1
    exact ⟨(hW.cell (p := ⟨bx, 0, none⟩) hbl).trans hbx, (hW.cell (p := ⟨M.tb, 1, none⟩) htl).trans c1, (hW.cell (p := ⟨g2, l.num, none⟩) hg2).trans c3⟩
  have HS := Lib.hid hS
  have HRD := Lib.hid hrd
  have HV := Lib.hid hv
  clear hT hok hokl hS hrd hv hbx c3 e2 hl
  generalize l.num = q at *
  generalize M.lb q = lb at *
  generalize hi : l.nd.ins = i1 at *
  generalize hp : l.nd.spl = p1 at *
  clear hi hp
  have hq0 : ¬ ((q : Int) < 0) := by omega
  have hq1 : (q : Int) < (T.length : Int) := by omega
  have hq2 : ¬ ((T.length : Int) ≤ (q : Int)) := by omega
  have hq3 : (0 : Int) ≤ (q : Int) := by omega
  have hd0 : decide ((q : Int) < 0) = false := decide_eq_false hq0
  have hd1 : decide ((T.length : Int) ≤ (q : Int)) = false := decide_eq_false hq2
  have HW1 := Lib.hid hW1.drew
  have HB1 := Lib.hid hB1.drew
  clear hW1 hB1
  by_cases h1 : i1 = ins
  · obtain rfl : ins = i1 := h1.symm
    by_cases h2 : p1 = spl
    · obtain rfl : spl = p1 := h2.symm
      go_enter Try.func68, Try.ntmps68
      go_upto_region 1 with fail
      have d0 := HB1.out.at 0 rfl
      have d1 := HB1.out.at 1 rfl
      have d2 := HB1.out.at 2 rfl
      obtain ⟨r0, r1, r2⟩ := HRD.out _ HW1.out
      go_region_held3 (fun w' => w'.cell? ⟨w.heap.size, 0, none⟩ = some (.int .i64 (q : Nat)) ∧ w'.cell? ⟨w.heap.size, 1, none⟩ = some (.int .i64 (ins : Nat)) ∧ w'.cell? ⟨w.heap.size, 2, none⟩ = some (.int .i64 (spl : Nat)) ∧ w'.cell? ⟨bx, 0, none⟩ = some (.pointer (some ⟨M.tb, 0, none⟩)) ∧ w'.cell? ⟨M.tb, 1, none⟩ = some (.slice (some ⟨g2, 0, none⟩) T.length M.k2) ∧ w'.cell? ⟨g2, q, none⟩ = some (.pointer (some ⟨lb, 0, none⟩)))
        (first | exact ⟨s0, s1, s2, t0, t1, t2⟩ | exact ⟨d0, d1, d2, r0, r1, r2⟩)
        (first | (go_at_call 66; refine (HS.out _ HW1.out).mono ?_; rintro e w2 ⟨rfl, b2⟩; have hB2 := HB1.out.below b2 HB1.out.lt; have s0 := hB2.at 0 rfl; have s1 := hB2.at 1 rfl; have s2 := hB2.at 2 rfl; obtain ⟨t0, t1, t2⟩ := HRD.out w2 (HW1.out.trans (b2.mono HW1.out.size))))
      go_wp2_with fail
      go_ret
      exact ⟨by rw [HV.out]; simp, HW1.out.trans (b2.mono HW1.out.size)⟩
    · have hn : ¬ ((p1 : Int) = (spl : Int)) := by omega
      have hnb : ((p1 : Int) == (spl : Int)) = false := by simpa using hn
      go_enter Try.func68, Try.ntmps68
      go_upto_region 1 with fail
      have d0 := HB1.out.at 0 rfl
      have d1 := HB1.out.at 1 rfl
      have d2 := HB1.out.at 2 rfl
      obtain ⟨r0, r1, r2⟩ := HRD.out _ HW1.out
      go_region_held3 (fun w' => w'.cell? ⟨w.heap.size, 0, none⟩ = some (.int .i64 (q : Nat)) ∧ w'.cell? ⟨w.heap.size, 1, none⟩ = some (.int .i64 (ins : Nat)) ∧ w'.cell? ⟨w.heap.size, 2, none⟩ = some (.int .i64 (spl : Nat)) ∧ w'.cell? ⟨bx, 0, none⟩ = some (.pointer (some ⟨M.tb, 0, none⟩)) ∧ w'.cell? ⟨M.tb, 1, none⟩ = some (.slice (some ⟨g2, 0, none⟩) T.length M.k2) ∧ w'.cell? ⟨g2, q, none⟩ = some (.pointer (some ⟨lb, 0, none⟩)))
        (first | exact ⟨s0, s1, s2, t0, t1, t2⟩ | exact ⟨d0, d1, d2, r0, r1, r2⟩)
        (first | (go_at_call 66; refine (HS.out _ HW1.out).mono ?_; rintro e w2 ⟨rfl, b2⟩; have hB2 := HB1.out.below b2 HB1.out.lt; have s0 := hB2.at 0 rfl; have s1 := hB2.at 1 rfl; have s2 := hB2.at 2 rfl; obtain ⟨t0, t1, t2⟩ := HRD.out w2 (HW1.out.trans (b2.mono HW1.out.size))))
      go_wp2_with fail
      go_ret
      exact ⟨by rw [HV.out, decide_eq_false (fun h => h2 h.2)]; rfl, HW1.out.trans (b2.mono HW1.out.size)⟩
  · have hn : ¬ ((i1 : Int) = (ins : Int)) := by omega
    have hnb : ((i1 : Int) == (ins : Int)) = false := by simpa using hn
    go_enter Try.func68, Try.ntmps68
    go_upto_region 1 with fail
    have d0 := HB1.out.at 0 rfl
    have d1 := HB1.out.at 1 rfl
    have d2 := HB1.out.at 2 rfl
    obtain ⟨r0, r1, r2⟩ := HRD.out _ HW1.out
    go_region_held3 (fun w' => w'.cell? ⟨w.heap.size, 0, none⟩ = some (.int .i64 (q : Nat)) ∧ w'.cell? ⟨w.heap.size, 1, none⟩ = some (.int .i64 (ins : Nat)) ∧ w'.cell? ⟨w.heap.size, 2, none⟩ = some (.int .i64 (spl : Nat)) ∧ w'.cell? ⟨bx, 0, none⟩ = some (.pointer (some ⟨M.tb, 0, none⟩)) ∧ w'.cell? ⟨M.tb, 1, none⟩ = some (.slice (some ⟨g2, 0, none⟩) T.length M.k2) ∧ w'.cell? ⟨g2, q, none⟩ = some (.pointer (some ⟨lb, 0, none⟩)))
      (first | exact ⟨s0, s1, s2, t0, t1, t2⟩ | exact ⟨d0, d1, d2, r0, r1, r2⟩)
      (first | (go_at_call 66; refine (HS.out _ HW1.out).mono ?_; rintro e w2 ⟨rfl, b2⟩; have hB2 := HB1.out.below b2 HB1.out.lt; have s0 := hB2.at 0 rfl; have s1 := hB2.at 1 rfl; have s2 := hB2.at 2 rfl; obtain ⟨t0, t1, t2⟩ := HRD.out w2 (HW1.out.trans (b2.mono HW1.out.size))))
    go_wp2_with fail
    go_ret
    exact ⟨by rw [HV.out, decide_eq_false (fun h => h1 h.1)]; rfl, HW1.out.trans (b2.mono HW1.out.size)⟩

/-- A number that tells whether one is there. -/
def SomeIdx (b : Bool) (w : World) (e : Ending) (w' : World) : Prop := ∃ r : Int, e = .returned (.int .i64 r) ∧ decide (0 ≤ r) = b ∧ Below w.heap.size w w'
theorem find_bad {T : Tr} {S : List (Nat × Nat × Nat)} {k : Nat} (h : (S.take k).any (fun s => !okL T s) = false) (hk : k < S.length) (ho : okL T S[k] = true) : (S.take (k + 1)).any (fun s => !okL T s) = false := by
  rw [List.take_succ_eq_append_getElem hk, List.any_append, h]
  simp [ho]
theorem validM_any (T : Tr) (S : List (Nat × Nat × Nat)) : (S.any fun s => !okL T s) = !validM T S := by
  unfold validM okL
  rw [List.any_eq_not_all_not]
  simp
set_option maxRecDepth 100000 in
theorem index_seen (w : World) (B n : Nat) (M : TrM) (T : Tr) (hT : TreeAt B w M T n) (hok : TrOk T) (hm : T.length ≤ 1000000) (bx : Nat) (hbx : w.cell? ⟨bx, 0, none⟩ = some (.pointer (some ⟨M.tb, 0, none⟩))) (hbl : bx < w.heap.size)
    (a : Option Addr) (c m : Nat) (S : List (Nat × Nat × Nat)) (hSm : S.length = m) (hS1 : m ≤ 1000000) (hR : RdN3 w a S) (hS : ∀ s ∈ S, ∃ l ∈ T, l.num = s.1) :
    Calls Try.prog 81 #[.slice a m c, .func (.func 68) #[] #[.pointer (some ⟨bx, 0, none⟩)]] w (SomeIdx (S.any fun s => !okL T s) w) := by
  have hV : ∀ W, Below w.heap.size w W → ∀ s ∈ S, Calls Try.prog 68 #[.agg #[.int .i64 (s.1 : Nat), .int .i64 (s.2.1 : Nat), .int .i64 (s.2.2 : Nat)], .pointer (some ⟨bx, 0, none⟩)] W fun e w' => e = .returned (.bool (!okL T s)) ∧ Below W.heap.size W w' := fun W hW s hs =>
    valid1 W B n M T (hT.below hW) hok hm bx ((hW.cell (p := ⟨bx, 0, none⟩) hbl).trans hbx) (Nat.lt_of_lt_of_le hbl hW.size) s.1 s.2.1 s.2.2 (hS s hs)
  have hR2 : ∀ W, Below w.heap.size w W → RdN3 W a S := fun W hW => hR.below hW
  have HV := Lib.hid hV
  have HR := Lib.hid hR2
  have HM := Lib.hid hSm
  have hcf := call68
  clear hT hok hm hbx hbl hR hS hV hR2 hSm
  go_enter Try.func81, Try.ntmps81
  go_wp2
  go_loopg [8] m (fun gn i wr => ∃ k : Nat, k ≤ m ∧ i = .int .i64 k ∧ gn = m - k ∧ (S.take k).any (fun s => !okL T s) = false ∧ Below w.heap.size w wr)
  case atStart => exact ⟨0, Nat.zero_le _, rfl, rfl, rfl, Below.refl _ _⟩
  case round =>
    obtain ⟨k, hk, rfl, rfl, hx, hb⟩ := hrel
    have HX := Lib.hid hx
    clear hx
    by_cases hlt : k < m
    · have hkl : k < S.length := by rw [HM.out]; exact hlt
      obtain ⟨b, off, rfl, hbw, c0, c1, c2⟩ := (HR.out wr hb) k hkl
      have e1 : S.getD k (0, 0, 0) = S[k] := by simp [List.getD, hkl]
      rw [e1] at c0 c1 c2
      have hF := HV.out wr hb S[k] (List.getElem_mem hkl)
      have hnext := fun h => find_bad HX.out hkl h
      have hHas : okL T S[k] = false → (S.any fun s => !okL T s) = true := fun h => List.any_eq_true.2 ⟨S[k], List.getElem_mem hkl, by rw [h]; rfl⟩
      clear e1
      generalize S[k] = s at *
      cases ho : okL T s with
      | false =>
        have hany := hHas ho
        rw [ho] at hF
        have HA := Lib.hid hany
        clear hany hHas hnext ho
        go_wp2_with (refine hF.mono ?_; rintro e w' ⟨rfl, b5⟩)
        go_ret
        exact ⟨k, rfl, by rw [HA.out]; simp, hb.trans (b5.mono hb.size)⟩
      | true =>
        have hn := hnext ho
        rw [ho] at hF
        have HN := Lib.hid hn
        clear hn hHas hnext ho
        go_wp2_with (refine hF.mono ?_; rintro e w' ⟨rfl, b5⟩)
        go_roundg (m - (k + 1))
        case rel => exact ⟨k + 1, by omega, by go_num, rfl, HN.out, hb.trans (b5.mono hb.size)⟩
        case measure => omega
    · have hany : (S.any fun s => !okL T s) = false := by
        have h := HX.out
        have h2 := HM.out
        rwa [List.take_of_length_le (by omega)] at h
      clear HX
      have HA := Lib.hid hany
      clear hany
      go_wp2_with fail
      go_ret
      exact ⟨-1, rfl, by rw [HA.out]; simp, hb⟩

set_option maxRecDepth 100000 in
theorem valid_tr (w : World) (B n : Nat) (M : TrM) (T : Tr) (hT : TreeAt B w M T n) (hok : TrOk T) (hm : T.length ≤ 1000000)
    (a : Option Addr) (c m : Nat) (S : List (Nat × Nat × Nat)) (hSm : S.length = m) (hS1 : m ≤ 1000000) (hR : RdN3 w a S) (hS : ∀ s ∈ S, ∃ l ∈ T, l.num = s.1) :
    Calls Try.prog 49 #[.pointer (some ⟨M.tb, 0, none⟩), .slice a m c] w fun e w' => e = .returned (.bool (validM T S)) ∧ Below w.heap.size w w' := by
  have hb1 : Below w.heap.size w (w.alloc (.cells #[.pointer (some ⟨M.tb, 0, none⟩)] 58)) := (Below.refl _ w).alloc (Nat.le_refl _) _
  have hI := index_seen (w.alloc (.cells #[.pointer (some ⟨M.tb, 0, none⟩)] 58)) B n M T (hT.below hb1) hok hm w.heap.size ((Blk.new w 58 _).at 0 rfl) (by simp) a c m S hSm hS1 (hR.below hb1) hS
  have hv := validM_any T S
  have hC : Calls Try.prog 67 #[.slice a m c, .func (.func 68) #[] #[.pointer (some ⟨w.heap.size, 0, none⟩)]] (w.alloc (.cells #[.pointer (some ⟨M.tb, 0, none⟩)] 58)) fun e w' => e = .returned (.bool (!validM T S)) ∧ Below w.heap.size w w' := by
    rw [hv] at hI
    clear hT hok hm hR hS hv hSm
    generalize validM T S = v at *
    have HB := Lib.hid hb1
    clear hb1
    go_enter Try.func67, Try.ntmps67
    go_wp2_with (go_at_call 81; refine hI.mono ?_; rintro e w' ⟨r, rfl, hr, b5⟩)
    go_ret
    exact ⟨by rw [← hr]; rfl, HB.out.trans (b5.mono (by simp))⟩
  clear hI hT hok hm hR hS hv hSm hb1
  generalize validM T S = v at *
  go_enter Try.func49, Try.ntmps49
  go_wp2_with (go_at_call 67; refine hC.mono ?_; rintro e w' ⟨rfl, b5⟩)
  go_ret
  exact ⟨by simp, b5⟩

end Go.Proofs.Ythplnecnagbedaa
