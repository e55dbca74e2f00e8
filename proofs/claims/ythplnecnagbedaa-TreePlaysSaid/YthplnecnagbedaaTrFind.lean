/- The tree's search for a key's leaf: the library's binary search over leaves by contract; conditions: the leaves lie in memory, in order. -/
import Derived.Test.YthplnecnagbedaaTrLaw
import Derived.Test.YthplnecnagbedaaNdFind
namespace Go.Proofs.Ythplnecnagbedaa
open Go.RowKit

theorem call79 : ∀ (args : Array Value) (W : World), (callFunc 79 args).run Try.prog W = .ok (.enter 79 args) W := fun _ _ => by kernel_rfl
theorem cmpL_any (w : World) (p : Nat) (q k : ByteArray) (c : w.cell? ⟨p, 1, none⟩ = some (.string q)) :
    Calls Try.prog 79 #[.pointer (some ⟨p, 0, none⟩), .string k] w fun e w' => e = .returned (.int .i64 (cmpI q k)) ∧ w = w' := by
  cases hl : bl q k with
  | true =>
    have hv : cmpI q k = -1 := by unfold cmpI; rw [hl]; rfl
    rw [hv]
    have h1 : Op.bytesLess q.toList k.toList = true := hl
    clear hl hv
    go_enter Try.func79, Try.ntmps79
    go_wp2
    go_ret
    exact ⟨rfl, rfl⟩
  | false =>
    have h1 : Op.bytesLess q.toList k.toList = false := hl
    by_cases he : q = k
    · subst he
      rw [cmpI_zero.2 rfl]
      clear hl
      go_enter Try.func79, Try.ntmps79
      go_wp2
      go_ret
      exact ⟨rfl, rfl⟩
    · have h2 : (q.toList == k.toList) = false := by rw [beqL]; exact decide_eq_false he
      have hv : cmpI q k = 1 := by unfold cmpI; rw [hl, if_neg (by simp), if_neg he]
      rw [hv]
      clear hl hv he
      go_enter Try.func79, Try.ntmps79
      go_wp2
      go_ret
      exact ⟨rfl, rfl⟩

set_option maxRecDepth 100000 in
theorem bsearchL_any (w : World) (pb n cap : Nat) (A : List Ent) (hs : SortedE A) (hn : A.length = n) (hb : n ≤ 1000000) (k : ByteArray)
    (hp : ∀ i, i < n → ∃ p, w.cell? ⟨pb, i, none⟩ = some (.pointer (some ⟨p, 0, none⟩)) ∧ w.cell? ⟨p, 1, none⟩ = some (.string (A.getD i (emp, 0)).1)) :
    Calls Try.prog 78 #[.slice (some ⟨pb, 0, none⟩) n cap, .string k, .func (.func 79) #[] #[]] w fun e w' => e = .returned (.tuple #[.int .i64 (lbE A k : Nat), .bool (hasE A k)]) ∧ w = w' := by
  have HL := Lib.hid hn
  have HP := Lib.hid hp
  have HS := Lib.hid hs
  clear hn hp hs
  have hcf := call79
  obtain ⟨L0, hL0⟩ : ∃ L0, L0 = lbE A k := ⟨_, rfl⟩
  obtain ⟨H0, hH0⟩ : ∃ H0, H0 = hasE A k := ⟨_, rfl⟩
  rw [← hL0, ← hH0]
  have HL0 := Lib.hid hL0
  have HH0 := Lib.hid hH0
  clear hL0 hH0
  go_enter Try.func78, Try.ntmps78
  go_wp2
  go_loopg [9, 10] n (fun gn i j wr => ∃ (a c : Nat), a ≤ c ∧ c ≤ n ∧ i = .int .i64 a ∧ j = .int .i64 c ∧ gn = c - a ∧ (∀ q, q < a → bl (A.getD q (emp, 0)).1 k = true) ∧ (∀ q, c ≤ q → q < n → bl (A.getD q (emp, 0)).1 k = false) ∧ w = wr)
  case atStart => exact ⟨0, n, Nat.zero_le _, Nat.le_refl _, rfl, rfl, by omega, fun q hq => by omega, fun q h1 h2 => by omega, rfl⟩
  case round =>
    obtain ⟨a, c, hac, hcu, rfl, rfl, rfl, hlo, hhi, rfl⟩ := hrel
    have HLO := Lib.hid hlo
    have HHI := Lib.hid hhi
    clear hlo hhi
    by_cases hlt : a < c
    · go_upto_region 5 with fail
      obtain ⟨m, hm, hm1, hm2⟩ : ∃ m : Nat, ((a : Int) + (c : Int)) / 2 = (m : Int) ∧ a ≤ m ∧ m < c := ⟨(a + c) / 2, by omega, by omega, by omega⟩
      rw [hm]
      have hmu : m < n := by omega
      obtain ⟨p, cm, cq⟩ := HP.out m hmu
      have hc := cmpL_any w p (A.getD m (emp, 0)).1 k cq
      obtain ⟨q, hq⟩ : ∃ q, (A.getD m (emp, 0)).1 = q := ⟨_, rfl⟩
      rw [hq] at cq hc
      have HEE := Lib.hid hq
      clear hm hq
      by_cases hr : cmpI q k < 0
      · have hbl := cmpI_neg.1 hr
        have hlb : m < lbE A k := by
          rcases Nat.lt_or_ge m (lbE A k) with h | h
          · exact h
          · have := lbE_ge HS.out h (by rw [HL.out]; exact hmu)
            rw [HEE.out, hbl] at this; cases this
        generalize cmpI q k = r at hc hr
        clear hbl
        have HLB := Lib.hid hlb
        clear hlb
        go_wp2_with (refine hc.mono ?_; rintro e w' ⟨rfl, rfl⟩)
        go_roundg (c - (m + 1))
        case rel => exact ⟨m + 1, c, by omega, hcu, by go_num, rfl, rfl, fun j hj => lbE_lt (by have := HLB.out; omega), HHI.out, rfl⟩
        case measure => omega
      · have hbl : bl q k = false := by
          cases h : bl q k with
          | false => rfl
          | true => exact absurd (cmpI_neg.2 h) hr
        have hlb : lbE A k ≤ m := by
          rcases Nat.lt_or_ge m (lbE A k) with h | h
          · have := lbE_lt h
            rw [HEE.out, hbl] at this; cases this
          · exact h
        generalize cmpI q k = r at hc hr
        clear hbl
        have HLB := Lib.hid hlb
        clear hlb
        go_wp2_with (refine hc.mono ?_; rintro e w' ⟨rfl, rfl⟩)
        go_roundg (m - a)
        case rel => exact ⟨a, m, hm1, by omega, rfl, rfl, rfl, HLO.out, fun j h1 h2 => lbE_ge HS.out (by have := HLB.out; omega) (by rw [HL.out]; exact h2), rfl⟩
        case measure => omega
    · obtain rfl : a = c := by omega
      have hlb : lbE A k = a := lbE_of (by rw [HL.out]; exact hcu) HLO.out (fun h => HHI.out a (Nat.le_refl _) (by rw [← HL.out]; exact h))
      have hhas : hasE A k = decide (a < n ∧ (A.getD a (emp, 0)).1 = k) := by
        unfold hasE
        rw [hlb]
        by_cases hau : a < n
        · have hl2 : a < A.length := by rw [HL.out]; exact hau
          simp [hau, List.getD, hl2]
        · rw [List.getElem?_eq_none (by rw [HL.out]; omega)]
          simp [hau]
      obtain rfl : L0 = a := HL0.out.trans hlb
      have hhas := HH0.out.trans hhas
      clear hlb HL0 HH0
      by_cases hau : L0 < n
      · obtain ⟨p, cm, cq⟩ := HP.out L0 hau
        have hc := cmpL_any w p (A.getD L0 (emp, 0)).1 k cq
        generalize (A.getD L0 (emp, 0)).1 = q at hc hhas cq
        by_cases hq : q = k
        · rw [decide_eq_true ⟨hau, hq⟩] at hhas
          subst hhas
          rw [cmpI_zero.2 hq] at hc
          clear hq
          go_wp2_with (refine hc.mono ?_; rintro e w' ⟨rfl, rfl⟩)
          go_ret2
          exact ⟨rfl, rfl⟩
        · rw [decide_eq_false (fun h => hq h.2)] at hhas
          subst hhas
          have hr : (cmpI q k == 0) = false := by
            simp only [beq_eq_false_iff_ne]
            exact fun h => hq (cmpI_zero.1 h)
          generalize cmpI q k = r at hc hr
          clear hq
          go_wp2_with (refine hc.mono ?_; rintro e w' ⟨rfl, rfl⟩)
          go_ret2
          exact ⟨rfl, rfl⟩
      · rw [decide_eq_false (fun h => hau h.1)] at hhas
        subst hhas
        go_wp2_with fail
        go_ret2
        exact ⟨rfl, rfl⟩

end Go.Proofs.Ythplnecnagbedaa
