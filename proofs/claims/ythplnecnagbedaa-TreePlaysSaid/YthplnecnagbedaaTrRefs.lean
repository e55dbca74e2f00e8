/- The document's tree: its calls by contract; the tree's Scan out of range; SpoilInts; conditions: it lies as told. -/
import Derived.Test.YthplnecnagbedaaTrKit
import Derived.Test.YthplnecnagbedaaAppends
import Derived.BigQuiet
import Derived.Deep.QuietTactic
import Derived.Laws.OwnMore
import Derived.Test.YthplnecnagbedaaTrScanP
import Derived.Test.YthplnecnagbedaaTrScan
namespace Go.Proofs.Ythplnecnagbedaa
open Go.RowKit

def ksE (E : List Ent) : List Value := E.map fun e => .string e.1
def vsE (E : List Ent) : List Value := E.map fun e => .int .i64 e.2
/-- The document's tree at rb: rows of its own. -/
structure RT (B : Nat) (w : World) (rb : Nat) (E : List Ent) (ka : Option Addr) (kc : Nat) (va : Option Addr) (vc : Nat) : Prop where
  top : Blk w rb 81 #[.slice ka E.length kc, .slice va E.length vc]
  keys : w.ownsRow B 9 1 (.slice ka E.length kc) E.length (ksE E)
  vals : w.ownsRow B 3 1 (.slice va E.length vc) E.length (vsE E)
  ge : B ≤ rb
section
variable {B rb kc vc : Nat} {ka va : Option Addr} {w w' : World} {E : List Ent}
theorem RT.key (h : RT B w rb E ka kc va vc) {i : Nat} (hi : i < E.length) : ∃ b, ka = some ⟨b, 0, none⟩ ∧ b < w.heap.size ∧ w.cell? ⟨b, i, none⟩ = some (.string (E.getD i (emp, 0)).1) := by
  obtain ⟨b, e, _, hb, hc⟩ := own_rd h.keys i (.string (E.getD i (emp, 0)).1) (by simp [ksE, List.getD, hi])
  exact ⟨b, e, hb, hc⟩
theorem RT.val (h : RT B w rb E ka kc va vc) {i : Nat} (hi : i < E.length) : ∃ b, va = some ⟨b, 0, none⟩ ∧ b < w.heap.size ∧ w.cell? ⟨b, i, none⟩ = some (.int .i64 (E.getD i (emp, 0)).2) := by
  obtain ⟨b, e, _, hb, hc⟩ := own_rd h.vals i (.int .i64 (E.getD i (emp, 0)).2) (by simp [vsE, List.getD, hi])
  exact ⟨b, e, hb, hc⟩
theorem RT.c0 (h : RT B w rb E ka kc va vc) : w.cell? ⟨rb, 0, none⟩ = some (.slice ka E.length kc) := h.top.at 0 rfl
theorem RT.c1 (h : RT B w rb E ka kc va vc) : w.cell? ⟨rb, 1, none⟩ = some (.slice va E.length vc) := h.top.at 1 rfl
theorem RT.chg {l : List Nat} (h : RT B w rb E ka kc va vc) (hc : Chg l w w') (h1 : rb ∉ l) (h2 : ∀ q, (Value.slice ka E.length kc).ownBlock = some q → q ∉ l) (h3 : ∀ q, (Value.slice va E.length vc).ownBlock = some q → q ∉ l) : RT B w' rb E ka kc va vc :=
  ⟨h.top.chg hc h1, own_chg h.keys hc h2, own_chg h.vals hc h3, h.ge⟩
theorem RT.chg0 (h : RT B w rb E ka kc va vc) (hc : Chg [] w w') : RT B w' rb E ka kc va vc := h.chg hc (by simp) (by simp) (by simp)
theorem RT.drewN (h : RT B w rb E ka kc va vc) (q : Nat) : RT B (w.drewN q) rb E ka kc va vc := h.chg0 ((Chg.refl [] w).drewN q)
theorem RT.next (h : RT B w rb E ka kc va vc) (hb : Below w.heap.size w w') : RT B w' rb E ka kc va vc := h.chg0 (Chg.of_below hb [])
end
theorem half_bd (l h : Nat) (hlh : l < h) (hh : h ≤ 4096) : IntKind.i64.wrap ((l : Int) + (h : Int)) = (l : Int) + (h : Int) ∧ Int.tdiv ((l : Int) + (h : Int)) 2 = (((l + h) / 2 : Nat) : Int) := by
  refine ⟨by rw [IntKind.wrap_i64]; omega, ?_⟩
  have e : (l : Int) + (h : Int) = ((l + h : Nat) : Int) := by omega
  rw [e, Int.tdiv_eq_ediv_of_nonneg (by omega)]
  omega
theorem hasE_at {E : List Ent} {k : ByteArray} (h : lbE E k < E.length) : hasE E k = decide ((E.getD (lbE E k) (emp, 0)).1 = k) := by
  unfold hasE
  rw [List.getElem?_eq_getElem h, Option.map_some]
  have e : E.getD (lbE E k) (emp, 0) = E[lbE E k] := by simp [List.getD, h]
  rw [e]
  by_cases hk : (E[lbE E k]).1 = k
  · rw [hk]; simp
  · simp [hk]
theorem hasE_end {E : List Ent} {k : ByteArray} (h : ¬ lbE E k < E.length) : hasE E k = false := by
  cases hh : hasE E k with
  | true => exact absurd (has_lt hh) h
  | false => rfl

set_option maxRecDepth 100000 in
theorem tplace_any (w : World) (B rb kc vc : Nat) (ka va : Option Addr) (E : List Ent) (hs : SortedE E) (hE : E.length ≤ 4096) (hR : RT B w rb E ka kc va vc) (k : ByteArray) :
    Calls Try.prog 82 #[.pointer (some ⟨rb, 0, none⟩), .string k] w fun e w' => e = .returned (.tuple #[.int .i64 (lbE E k : Nat), .bool (hasE E k)]) ∧ ∃ q, w' = w.drewN q := by
  have c0 := hR.c0
  have HK := Lib.hid (fun i hi => hR.key (i := i) hi)
  obtain ⟨L, hL⟩ : ∃ L, L = lbE E k := ⟨_, rfl⟩
  obtain ⟨hh, hhe⟩ : ∃ h, h = hasE E k := ⟨_, rfl⟩
  rw [← hL, ← hhe]
  have HL := Lib.hid hL
  have HH := Lib.hid hhe
  have HS := Lib.hid hs
  obtain ⟨n, hn⟩ : ∃ n, n = E.length := ⟨_, rfl⟩
  have HN := Lib.hid hn
  rw [← hn] at c0 hE
  clear hR hL hhe hs hn
  go_enter Try.func82, Try.ntmps82
  go_upto_region 1 with fail
  go_quiet (fail)
  go_wp2_with fail
  go_loopg [6, 7] n (fun gn lo hi wr => ∃ (l h q : Nat), l ≤ h ∧ h ≤ n ∧ lo = .int .i64 l ∧ hi = .int .i64 h ∧ gn = h - l ∧ (∀ j, j < l → bl (E.getD j (emp, 0)).1 k = true) ∧ (∀ j, h ≤ j → j < n → bl (E.getD j (emp, 0)).1 k = false) ∧ wr = w.drewN q)
  case atStart => exact ⟨0, n, _, Nat.zero_le _, Nat.le_refl _, rfl, rfl, rfl, fun j hj => by omega, fun j h1 h2 => by omega, rfl⟩
  case round =>
    obtain ⟨l, h, q, hlh, hhn, rfl, rfl, rfl, hlow, hhigh, rfl⟩ := hrel
    by_cases hlt : l < h
    · obtain ⟨hw, hd⟩ := half_bd l h hlt (by omega)
      obtain ⟨m, hm⟩ : ∃ m, m = (l + h) / 2 := ⟨_, rfl⟩
      rw [← hm] at hd
      have hml : l ≤ m := by omega
      have hmh : m < h := by omega
      have hltI : (l : Int) < (h : Int) := by omega
      have hmn : (m : Int) < (n : Int) := by omega
      obtain ⟨b, rfl, hb, cm⟩ := HK.out m (by rw [← HN.out]; omega)
      have hlow2 : bl (E.getD m (emp, 0)).1 k = true → ∀ j, j < m + 1 → bl (E.getD j (emp, 0)).1 k = true := fun hm1 j hj => by
        by_cases e : j = m
        · subst e; exact hm1
        · by_cases hjl : j < l
          · exact hlow j hjl
          · have hjm : j < m := by omega
            have hp := List.pairwise_iff_getElem.1 HS.out j m (by rw [← HN.out]; omega) (by rw [← HN.out]; omega) hjm
            have e1 : E.getD j (emp, 0) = E[j]'(by rw [← HN.out]; omega) := by simp [List.getD, show j < E.length by rw [← HN.out]; omega]
            have e2 : E.getD m (emp, 0) = E[m]'(by rw [← HN.out]; omega) := by simp [List.getD, show m < E.length by rw [← HN.out]; omega]
            rw [e2] at hm1
            rw [e1]
            exact bl_trans hp hm1
      have hhigh2 : bl (E.getD m (emp, 0)).1 k = false → ∀ j, m ≤ j → j < n → bl (E.getD j (emp, 0)).1 k = false := fun hm1 j h1 h2 => by
        by_cases e : j = m
        · subst e; exact hm1
        · have hp := List.pairwise_iff_getElem.1 HS.out m j (by rw [← HN.out]; omega) (by rw [← HN.out]; omega) (by omega)
          have e1 : E.getD j (emp, 0) = E[j]'(by rw [← HN.out]; omega) := by simp [List.getD, show j < E.length by rw [← HN.out]; omega]
          have e2 : E.getD m (emp, 0) = E[m]'(by rw [← HN.out]; omega) := by simp [List.getD, show m < E.length by rw [← HN.out]; omega]
          rw [e2] at hm1
          rw [e1]
          cases hc : bl (E[j]'(by rw [← HN.out]; omega)).1 k with
          | false => rfl
          | true => rw [bl_trans hp hc] at hm1; cases hm1
      have HLO := Lib.hid hlow
      have HHI := Lib.hid hhigh
      have HLO2 := Lib.hid hlow2
      have HHI2 := Lib.hid hhigh2
      clear hlow hhigh hlow2 hhigh2 hm
      generalize (E.getD m (emp, 0)).1 = km at cm HLO2 HHI2
      cases hb1 : bl km k with
      | true =>
        have hb2 : Op.bytesLess km.toList k.toList = true := hb1
        have H2 := Lib.hid (HLO2.out hb1)
        clear hb1
        go_wp2_with fail
        go_roundg (h - (m + 1))
        case rel => exact ⟨m + 1, h, q, by omega, hhn, by go_num, rfl, rfl, H2.out, HHI.out, rfl⟩
        case measure => omega
      | false =>
        have hb2 : Op.bytesLess km.toList k.toList = false := hb1
        have H2 := Lib.hid (HHI2.out hb1)
        clear hb1
        go_wp2_with fail
        go_roundg (m - l)
        case rel => exact ⟨l, m, q, hml, by omega, rfl, rfl, rfl, HLO.out, H2.out, rfl⟩
        case measure => omega
    · obtain rfl : l = h := by omega
      have hlb : lbE E k = l := lbE_of (by rw [← HN.out]; omega) hlow (fun h => hhigh l (Nat.le_refl _) (by rw [HN.out]; exact h))
      have hLl : L = l := HL.out.trans hlb
      have HLB := Lib.hid hlb
      have HLL := Lib.hid hLl
      clear hlow hhigh hlb hLl
      by_cases hln : l < n
      · have hlnI : (l : Int) < (n : Int) := by omega
        have hln2 : lbE E k < E.length := by rw [HLB.out, ← HN.out]; exact hln
        have hat := hasE_at hln2
        rw [HLB.out] at hat
        obtain ⟨b, rfl, hb, cm⟩ := HK.out l (by rw [← HN.out]; exact hln)
        have HAT := Lib.hid hat
        clear hat hln2
        generalize (E.getD l (emp, 0)).1 = km at cm HAT
        by_cases hkm : km = k
        · subst hkm
          have hhe : hh = true := HH.out.trans (HAT.out.trans (decide_eq_true rfl))
          have HHE := Lib.hid hhe
          clear hhe
          go_upto_region 7 with fail
          go_quiet (fail)
          go_wp2_with fail
          go_ret2
          rw [HLL.out, HHE.out]
          exact ⟨rfl, _, rfl⟩
        · have hhe : hh = false := HH.out.trans (HAT.out.trans (decide_eq_false hkm))
          have hk2 : ¬ km.toList = k.toList := fun h => hkm (ba_ext h)
          have hdec : (km.toList == k.toList) = false := beq_false_of_ne hk2
          have HHE := Lib.hid hhe
          clear hhe
          go_upto_region 7 with fail
          go_quiet (fail)
          go_wp2_with fail
          go_ret2
          rw [HLL.out, HHE.out]
          exact ⟨rfl, _, World.drewN_drewN _ _ _⟩
      · have hlnI : ¬ (l : Int) < (n : Int) := by omega
        have hhe : hh = false := HH.out.trans (hasE_end (by rw [HLB.out, ← HN.out]; exact hln))
        have HHE := Lib.hid hhe
        clear hhe
        go_upto_region 7 with fail
        go_quiet (fail)
        go_wp2_with fail
        go_ret2
        rw [HLL.out, HHE.out]
        exact ⟨rfl, _, rfl⟩

/-- Part of a row: where its cells are read. -/
def Cut (w : World) (v : Value) (a : Option Addr) (xs : List Value) : Prop := ∀ j u, xs[j]? = some u → ∃ b o, a = some ⟨b, o, none⟩ ∧ v.ownBlock = some b ∧ w.cell? ⟨b, o + j, none⟩ = some u
theorem Cut.chg {w w' : World} {v : Value} {a : Option Addr} {xs : List Value} {l : List Nat} (h : Cut w v a xs) (hc : Chg l w w') (hn : ∀ q, v.ownBlock = some q → q ∉ l) : Cut w' v a xs := fun j u hj => by
  obtain ⟨b, o, e, hv, hu⟩ := h j u hj
  exact ⟨b, o, e, hv, (hc.cell (World.block_lt_of_cell? w _ hu) (hn b hv)).trans hu⟩
theorem Cut.news {w : World} {v : Value} {a : Option Addr} {xs : List Value} (h : Cut w v a xs) : ∀ j u, xs[j]? = some u → ∃ ad, a = some ad ∧ w.cell? (ad.add j) = some u := fun j u hj => by
  obtain ⟨b, o, e, hv, hu⟩ := h j u hj
  exact ⟨_, e, by rw [Addr.add_lit]; exact hu⟩

theorem sl_head {t e : TypeId} (ht : Try.prog.underlying t = some (.slice (Try.prog.elem t))) (hz : ∀ W, (sizeOf (Try.prog.elem t)).run Try.prog W = .ok 1 W) {B : Nat} {w : World} {ka : Option Addr} {n kc L : Nat} {xs : List Value} (h : w.ownsRow B e 1 (.slice ka n kc) n xs) (hL : L ≤ n) :
    ∃ a c, (∀ W, (Instr.slice t (.slice ka n kc) none (some (.int .i64 (L : Int))) none).run Try.prog W = .ok (.slice a L c) W) ∧ Cut w (.slice ka n kc) a (xs.take L) := by
  have hk : n ≤ kc := by
    obtain ⟨A, cap, e, hc⟩ := own_form h
    injection e with _ _ e
    omega
  have hr := fun W => run_slice_h (P := Try.prog) W t ka n kc ht .i64 (L : Int) (by omega) (by omega)
  simp only [hz, Result.andThen_ok, Int.toNat_natCast] at hr
  cases ka with
  | none =>
    refine ⟨_, _, hr, fun j u hj => ?_⟩
    rcases h.2 with ⟨e1, h0⟩ | ⟨g, cap, cur, e1, _⟩
    · have := h.1
      rw [h0, Nat.zero_mul] at this
      have := List.eq_nil_of_length_eq_zero this
      subst this
      simp at hj
    · cases e1
  | some a =>
    refine ⟨_, _, hr, fun j u hj => ?_⟩
    have hj2 : xs[j]? = some u := by
      rw [List.getElem?_take] at hj
      split at hj
      · exact hj
      · cases hj
    obtain ⟨b, e1, _, _, hc⟩ := own_rd h j u hj2
    injection e1 with e1
    subst e1
    by_cases h0 : kc = 0
    · rw [if_pos h0]
      exact ⟨b, 0, rfl, rfl, by rw [Nat.zero_add]; exact hc⟩
    · rw [if_neg h0]
      refine ⟨b, 0, ?_, rfl, by rw [Nat.zero_add]; exact hc⟩
      show some (Addr.add ⟨b, 0, none⟩ (0 * 1)) = _
      rw [Addr.add_lit]
theorem sl_tail {t e : TypeId} (ht : Try.prog.underlying t = some (.slice (Try.prog.elem t))) (hz : ∀ W, (sizeOf (Try.prog.elem t)).run Try.prog W = .ok 1 W) {B : Nat} {w : World} {ka : Option Addr} {n kc L : Nat} {xs : List Value} (h : w.ownsRow B e 1 (.slice ka n kc) n xs) (hL : L ≤ n) :
    ∃ a c, (∀ W, (Instr.slice t (.slice ka n kc) (some (.int .i64 (L : Int))) none none).run Try.prog W = .ok (.slice a (n - L) c) W) ∧ Cut w (.slice ka n kc) a (xs.drop L) := by
  have hk : n ≤ kc := by
    obtain ⟨A, cap, e, hc⟩ := own_form h
    injection e with _ _ e
    omega
  have hr := fun W => run_slice_l (P := Try.prog) W t ka n kc ht .i64 (L : Int) (by omega) (by omega)
  simp only [hz, Result.andThen_ok, Int.toNat_natCast] at hr
  cases ka with
  | none =>
    refine ⟨_, _, hr, fun j u hj => ?_⟩
    rcases h.2 with ⟨e1, h0⟩ | ⟨g, cap, cur, e1, _⟩
    · have := h.1
      rw [h0, Nat.zero_mul] at this
      have := List.eq_nil_of_length_eq_zero this
      subst this
      simp at hj
    · cases e1
  | some a =>
    refine ⟨_, _, hr, fun j u hj => ?_⟩
    have hj2 : xs[L + j]? = some u := by
      rw [List.getElem?_drop] at hj
      exact hj
    have hlen : L + j < n := by
      have := (List.getElem?_eq_some_iff.1 hj2).1
      have := h.1
      omega
    obtain ⟨b, e1, _, _, hc⟩ := own_rd h (L + j) u hj2
    injection e1 with e1
    subst e1
    have h0 : ¬ kc = L := by omega
    rw [if_neg h0]
    refine ⟨b, L, ?_, rfl, hc⟩
    show some (Addr.add ⟨b, 0, none⟩ (L * 1)) = _
    rw [Addr.add_lit, Nat.mul_one, Nat.zero_add]

set_option maxRecDepth 100000 in
theorem tget_any (w : World) (B rb kc vc : Nat) (ka va : Option Addr) (E : List Ent) (hs : SortedE E) (hE : E.length ≤ 4096) (hR : RT B w rb E ka kc va vc) (k : ByteArray) :
    Calls Try.prog 70 #[.pointer (some ⟨rb, 0, none⟩), .string k] w fun e w' => e = .returned (.tuple #[.int .i64 (getSpec E k).1, .bool (getSpec E k).2]) ∧ ∃ q, w' = w.drewN q := by
  have hp := tplace_any w B rb kc vc ka va E hs hE hR k
  have c1 := hR.c1
  cases hh : hasE E k with
  | true =>
    have hlt := has_lt hh
    have hg : getSpec E k = ((E.getD (lbE E k) (emp, 0)).2, true) := by unfold getSpec getE; rw [if_pos hh]
    obtain ⟨b, e1, hb, cv⟩ := hR.val hlt
    subst e1
    rw [hg]
    rw [hh] at hp
    have hltI : ((lbE E k : Nat) : Int) < (E.length : Int) := by omega
    clear hh hg hR hs
    generalize (E.getD (lbE E k) (emp, 0)).2 = v at *
    generalize lbE E k = L at *
    go_enter Try.func70, Try.ntmps70
    go_wp2_with (go_at_call 82; refine hp.mono ?_; rintro e w2 ⟨rfl, q, rfl⟩)
    go_ret2
    exact ⟨rfl, q, rfl⟩
  | false =>
    have hg : getSpec E k = (0, false) := by unfold getSpec getE; rw [if_neg (by simp [hh])]
    rw [hg]
    rw [hh] at hp
    clear hh hg hR hs
    generalize lbE E k = L at *
    go_enter Try.func70, Try.ntmps70
    go_wp2_with (go_at_call 82; refine hp.mono ?_; rintro e w2 ⟨rfl, q, rfl⟩)
    go_ret2
    exact ⟨rfl, q, rfl⟩

/-- The blocks of the document's tree. -/
def rtF (rb n kc vc : Nat) (ka va : Option Addr) : List Nat := rb :: ((Value.slice ka n kc).ownBlock.toList ++ (Value.slice va n vc).ownBlock.toList)
/-- What a call leaves of the document's tree. -/
def RPost (B : Nat) (w : World) (rb : Nat) (E : List Ent) (kc vc : Nat) (ka va : Option Addr) (E' : List Ent) (res : Array Value) (e : Ending) (w' : World) : Prop :=
  e = .returned (.tuple res) ∧ ∃ ka' kc' va' vc', RT B w' rb E' ka' kc' va' vc' ∧ Chg (rtF rb E.length kc vc ka va) w w'
theorem ksE_len (E : List Ent) : (ksE E).length = E.length := by simp [ksE]
theorem vsE_len (E : List Ent) : (vsE E).length = E.length := by simp [vsE]
theorem ksE_one (E : List Ent) : ∀ u ∈ ksE E, u.oneCell' = true := by
  intro u hu
  obtain ⟨e, _, rfl⟩ := List.mem_map.1 hu
  rfl
theorem vsE_one (E : List Ent) : ∀ u ∈ vsE E, u.oneCell' = true := by
  intro u hu
  obtain ⟨e, _, rfl⟩ := List.mem_map.1 hu
  rfl
theorem cutLen {xs : List Value} {m : Nat} (h : xs.length = m) : xs.length = m * 1 := by omega
theorem chg_nil {w w' : World} (h : w.grownBy w' (Value.ownBlock (.slice none 0 0))) : Chg [] w w' := Chg.of_grown h fun q hq => by cases hq
/-- A row that another row's append leaves. -/
theorem own_kept {w w' : World} {B B' : Nat} {e e' : TypeId} {z z' n n' : Nat} {v v' : Value} {xs xs' : List Value} (h : w.ownsRow B e z v n xs) (h' : w.ownsRow B' e' z' v' n' xs') (hne : e ≠ e') (hg : w.grownBy w' v'.ownBlock) : w'.ownsRow B e z v n xs :=
  own_chg h (Chg.of_grown (l := v'.ownBlock.toList) hg fun q hq => .inl (by simpa using hq)) fun b hb hm => own_own h h' hne b hb (Option.mem_toList.1 hm)
theorem chg_fresh {w w' w'' : World} {B : Nat} {e : TypeId} {z n : Nat} {v : Value} {xs : List Value} {l : List Nat} (hc : Chg l w w') (h : w'.ownsRow B e z v n xs) (hB : w.heap.size ≤ B) (hg : w'.grownBy w'' v.ownBlock) : Chg l w w'' :=
  hc.trans (Chg.of_grown (l := v.ownBlock.toList) hg fun q hq => .inl (by simpa using hq)) fun q hq => .inr (by have := below_own h q (Option.mem_toList.1 hq); omega)

set_option maxRecDepth 100000 in
set_option maxHeartbeats 4000000 in
theorem tput_new (w : World) (B rb kc vc : Nat) (ka va : Option Addr) (E : List Ent) (hs : SortedE E) (hE : E.length < 4096) (hR : RT B w rb E ka kc va vc) (k : ByteArray) (hk : k.size ≤ 4096) (hh : hasE E k = false) (v : Int) :
    Calls Try.prog 69 #[.pointer (some ⟨rb, 0, none⟩), .string k, .int .i64 v] w (RPost B w rb E kc vc ka va (putE E k v) #[.int .i64 0, .bool false, .int .i64 0]) := by
  have hp := tplace_any w B rb kc vc ka va E hs (by omega) hR k
  rw [hh] at hp
  have hput : putE E k v = E.take (lbE E k) ++ (k, v) :: E.drop (lbE E k) := by unfold putE; rw [if_neg (by simp [hh])]
  have hle := lbE_le E k
  rw [hput]
  obtain ⟨n, hn⟩ : ∃ n, n = E.length := ⟨_, rfl⟩
  obtain ⟨L, hL⟩ : ∃ L, L = lbE E k := ⟨_, rfl⟩
  rw [← hL] at hp hle ⊢
  rw [← hn] at hle hE
  have hsz : ∀ W, (sizeOf (Try.prog.elem 44)).run Try.prog W = .ok 1 W := fun W => by kernel_rfl
  have hsz2 : ∀ W, (sizeOf (Try.prog.elem 62)).run Try.prog W = .ok 1 W := fun W => by kernel_rfl
  obtain ⟨a1, q1, hs1, hn1⟩ := sl_head (t := 44) (by kernel_rfl) hsz hR.keys (L := L) (by omega)
  obtain ⟨a2, q2, hs2, hn2⟩ := sl_head (t := 62) (by kernel_rfl) hsz2 hR.vals (L := L) (by omega)
  obtain ⟨a3, q3, hs3, hn3⟩ := sl_tail (t := 44) (by kernel_rfl) hsz hR.keys (L := L) (by omega)
  obtain ⟨a4, q4, hs4, hn4⟩ := sl_tail (t := 62) (by kernel_rfl) hsz2 hR.vals (L := L) (by omega)
  have e1 : (ksE E).take L = ksE (E.take L) := by simp [ksE, List.map_take]
  have e2 : (vsE E).take L = vsE (E.take L) := by simp [vsE, List.map_take]
  have e3 : (ksE E).drop L = ksE (E.drop L) := by simp [ksE, List.map_drop]
  have e4 : (vsE E).drop L = vsE (E.drop L) := by simp [vsE, List.map_drop]
  rw [e1] at hn1
  rw [e2] at hn2
  rw [e3] at hn3
  rw [e4] at hn4
  have l1 : (E.take L).length = L := by rw [List.length_take]; omega
  have l3 : (E.drop L).length = n - L := by rw [List.length_drop]; omega
  have c0 := hR.c0
  have c1 := hR.c1
  rw [← hn] at c0 c1 hs1 hs2 hs3 hs4
  have hrl := hR.top.lt
  have f0 := hR.top.free 0
  have f1 := hR.top.free 1
  have HN1 := Lib.hid hn1
  have HN2 := Lib.hid hn2
  have HN3 := Lib.hid hn3
  have HN4 := Lib.hid hn4
  have HR := Lib.hid hR
  have HL1 := Lib.hid l1
  have HL3 := Lib.hid l3
  have HNE := Lib.hid hn
  obtain ⟨i9, hi9, hz90, hz91, hz92⟩ := info_parts Try.info9
  obtain ⟨i3, hi3, hz30, hz31, hz32⟩ := info_parts Try.info3'
  have HI9 := Lib.hid hi9
  have HI3 := Lib.hid hi3
  clear hn1 hn2 hn3 hn4 hR e1 e2 e3 e4 l1 l3 hput hh hs hL hn hi9 hi3
  go_enter Try.func69, Try.ntmps69
  go_upto_region 12 with (go_at_call 82; refine hp.mono ?_; rintro e w0 ⟨rfl, q, rfl⟩)
  have C0 : Chg [] w (w.drewN q) := (Chg.refl [] w).drewN q
  have z0 : w.heap.size ≤ (w.drewN q).heap.size := C0.size
  have ck0 : (w.drewN q).cell? ⟨rb, 0, none⟩ = some (.slice ka n kc) := c0
  have ck1 : (w.drewN q).cell? ⟨rb, 1, none⟩ = some (.slice va n vc) := c1
  generalize w.drewN q = W0 at C0 z0 ck0 ck1 ⊢
  clear c0 c1
  have hrbL : ∀ {w' : World}, Chg [] w w' → w'.cell? ⟨rb, 0, none⟩ = some (.slice ka n kc) := fun hc => by rw [HNE.out]; exact (HR.out.chg0 hc).c0
  have hrbV : ∀ {w' : World}, Chg [] w w' → w'.cell? ⟨rb, 1, none⟩ = some (.slice va n vc) := fun hc => by rw [HNE.out]; exact (HR.out.chg0 hc).c1
  have hrbF : ∀ {w' : World}, Chg [] w w' → ∀ j, w'.frozen? ⟨rb, j, none⟩ = false := fun hc j => (HR.out.chg0 hc).top.free j
  go_upto_region 17 with (first
    | (at_builtin; refine wpList_append_to rfl (.tmp 70) (.tmp 76) 44 rfl w.heap.size 9 i9 (.string ⟨#[]⟩) 1 16 (by kernel_rfl) HI9.out hz90 hz91 hz92 rfl (by decide) (.slice x3 (L + 1) k3) (L + 1) _ rfl o3k a3 (n - L) q3 (ksE (E.drop L)) rfl (cutLen (by rw [ksE_len, HL3.out])) ((HN3.out.chg C4 (by simp)).news) (ksE_one _) (n + 1) (by omega) _ rfl (by unfold maxLen; omega) (by omega) (by omega) ?_; intro x5 k5 w5 o5 g5; have C5 := chg_fresh C4 o3k (Nat.le_refl _) g5; have z5 := C5.size; have o4k := own_kept o4 o3k (by decide) g5; have rc5 := hrbL C5; have rv5 := hrbV C5; have rf5 := hrbF C5 0; have rf51 := hrbF C5 1)
    | (at_builtin; refine wpList_append_to rfl (.tmp 65) (.tmp 67) 62 rfl w.heap.size 3 i3 (.int .i64 0) 1 8 (by kernel_rfl) HI3.out hz30 hz31 hz32 rfl (by decide) (.slice x2 L k2) L _ rfl (o2k.alloc _) (some ⟨w3.heap.size, 0, none⟩) 1 1 [.int .i64 v] rfl rfl (news_blk (Blk.new w3 _ _)) (by intro u hu; simp at hu; subst hu; rfl) (L + 1) rfl _ rfl (by unfold maxLen; omega) (by omega) (by simp only [World.size_alloc]; omega) ?_; intro x4 k4 w4 o4 g4; have C4 := chg_fresh (C3.alloc _) (o2k.alloc _) (Nat.le_refl _) g4; have z4 := C4.size; have o3k := own_kept (o3.alloc _) (o2k.alloc _) (by decide) g4; have rc4 := hrbL C4; have rv4 := hrbV C4)
    | (at_builtin; refine wpList_append_to rfl (.tmp 61) (.tmp 63) 44 rfl w.heap.size 9 i9 (.string ⟨#[]⟩) 1 16 (by kernel_rfl) HI9.out hz90 hz91 hz92 rfl (by decide) (.slice x1 L k1) L _ rfl (o1k.alloc _) (some ⟨w2.heap.size, 0, none⟩) 1 1 [.string k] rfl rfl (news_blk (Blk.new w2 _ _)) (by intro u hu; simp at hu; subst hu; rfl) (L + 1) rfl _ rfl (by unfold maxLen; omega) (by omega) (by simp only [World.size_alloc]; omega) ?_; intro x3 k3 w3 o3 g3; have C3 := chg_fresh (C2.alloc _) (o1k.alloc _) (Nat.le_refl _) g3; have z3 := C3.size; have o2k := own_kept (o2.alloc _) (o1k.alloc _) (by decide) g3; have rc3 := hrbL C3; have rv3 := hrbV C3)
    | (at_builtin; refine wpList_append_to rfl (.tmp 53) (.tmp 59) 62 rfl w.heap.size 3 i3 (.int .i64 0) 1 8 (by kernel_rfl) HI3.out hz30 hz31 hz32 rfl (by decide) (.slice none 0 0) 0 [] rfl (World.ownsRow_nil _ _ _ _) a2 L q2 (vsE (E.take L)) rfl (cutLen (by rw [vsE_len, HL1.out])) ((HN2.out.chg C1 (by simp)).news) (vsE_one _) L (by omega) _ rfl (by unfold maxLen; omega) (by omega) (by omega) ?_; intro x2 k2 w2 o2 g2; have C2 := C1.trans (chg_nil g2) (by simp); have z2 := C2.size; have o1k := own_chg o1 (chg_nil g2) (by simp); have rc2 := hrbL C2; have rv2 := hrbV C2)
    | (at_builtin; refine wpList_append_to rfl (.tmp 45) (.tmp 51) 44 rfl w.heap.size 9 i9 (.string ⟨#[]⟩) 1 16 (by kernel_rfl) HI9.out hz90 hz91 hz92 rfl (by decide) (.slice none 0 0) 0 [] rfl (World.ownsRow_nil _ _ _ _) a1 L q1 (ksE (E.take L)) rfl (cutLen (by rw [ksE_len, HL1.out])) ((HN1.out.chg C0 (by simp)).news) (ksE_one _) L (by omega) _ rfl (by unfold maxLen; omega) (by omega) z0 ?_; intro x1 k1 w1 o1 g1; have C1 := C0.trans (chg_nil g1) (by simp); have z1 := C1.size; have rc1 := hrbL C1; have rv1 := hrbV C1))
  have hx5 : ∀ q, (Value.slice x5 (n + 1) k5).ownBlock = some q → q ∉ [rb] := fun q hq hm => by
    have := below_own o5 q hq
    have := List.mem_singleton.1 hm
    omega
  have hx4' : ∀ q, (Value.slice x4 (L + 1) k4).ownBlock = some q → q ∉ [rb] := fun q hq hm => by
    have := below_own o4k q hq
    have := List.mem_singleton.1 hm
    omega
  have hx4 : rb ∉ (Value.slice x4 (L + 1) k4).ownBlock.toList := fun hm => hx4' rb (Option.mem_toList.1 hm) (by simp)
  have T5 : Blk w5 rb 81 #[.slice ka n kc, .slice va n vc] := by rw [HNE.out]; exact (HR.out.chg0 C5).top
  have cs : Chg [rb] w5 (w5.setCell ⟨rb, 0, none⟩ (.slice x5 (n + 1) k5)) := (Chg.refl [rb] w5).setCell (.inl (by simp)) _
  have C5s : Chg [rb] w (w5.setCell ⟨rb, 0, none⟩ (.slice x5 (n + 1) k5)) := (C5.more (l' := [rb]) (by simp)).setCell (.inl (by simp)) _
  have T5s : Blk (w5.setCell ⟨rb, 0, none⟩ (.slice x5 (n + 1) k5)) rb 81 #[.slice x5 (n + 1) k5, .slice va n vc] := Blk.conv (T5.set 0 _) rfl
  have o4s := own_chg o4k cs hx4'
  have o5s := own_chg o5 cs hx5
  have hvn : ∀ q, (Value.slice va E.length vc).ownBlock = some q → q ∉ [rb] := fun q hq hm => own_ne HR.out.vals HR.out.top (by decide) (by rw [hq, List.mem_singleton.1 hm])
  have z5s := C5s.size
  have rv5s : (w5.setCell ⟨rb, 0, none⟩ (.slice x5 (n + 1) k5)).cell? ⟨rb, 1, none⟩ = some (.slice va n vc) := T5s.at 1 rfl
  have hl5 : rb < (w5.setCell ⟨rb, 0, none⟩ (.slice x5 (n + 1) k5)).heap.size := T5s.lt
  generalize (w5.setCell ⟨rb, 0, none⟩ (.slice x5 (n + 1) k5)) = W5 at C5s T5s o4s o5s z5s rv5s hl5 ⊢
  clear rc1 rv1 rc2 rv2 rc3 rv3 rc4 rv4 rc5 rv5 rf5 rf51 C1 C2 C3 C4 z1 z2 z3 z4 z5 o1 o1k o2 o2k o3 o3k o4 o4k o5 g1 g2 g3 g4 g5 ck0 ck1 z0 C0 cs T5 C5
  go_wp2_with (at_builtin; refine wpList_append_to rfl (.tmp 81) (.tmp 87) 62 rfl w.heap.size 3 i3 (.int .i64 0) 1 8 (by kernel_rfl) HI3.out hz30 hz31 hz32 rfl (by decide) (.slice x4 (L + 1) k4) (L + 1) _ rfl o4s a4 (n - L) q4 (vsE (E.drop L)) rfl (cutLen (by rw [vsE_len, HL3.out])) ((HN4.out.chg C5s hvn).news) (vsE_one _) (n + 1) (by omega) _ rfl (by unfold maxLen; omega) (by omega) (by omega) ?_; intro x6 k6 w6 o6 g6; have T6 := T5s.chg (Chg.of_grown (l := (Value.slice x4 (L + 1) k4).ownBlock.toList) g6 fun q hq => .inl (by simpa using hq)) hx4; have r60 : w6.cell? ⟨rb, 1, none⟩ = some (.slice va n vc) := T6.at 1 rfl; have f60 := T6.free 1; have l60 := T6.lt)
  have o5f := own_chg (own_kept o5s o4s (by decide) g6) ((Chg.refl [rb] w6).setCell (p := ⟨rb, 1, none⟩) (.inl (by simp)) (.slice x6 (n + 1) k6)) hx5
  have o6f := own_chg o6 ((Chg.refl [rb] w6).setCell (p := ⟨rb, 1, none⟩) (.inl (by simp)) (.slice x6 (n + 1) k6)) (fun q hq hm => by
    have := below_own o6 q hq
    have := List.mem_singleton.1 hm
    omega)
  have C6 := (chg_fresh C5s o4s (Nat.le_refl _) g6).setCell (p := ⟨rb, 1, none⟩) (.inl (by simp)) (.slice x6 (n + 1) k6)
  have T7 : Blk (w6.setCell ⟨rb, 1, none⟩ (.slice x6 (n + 1) k6)) rb 81 #[.slice x5 (n + 1) k5, .slice x6 (n + 1) k6] := Blk.conv (T6.set 1 _) rfl
  have hlen : (E.take L ++ (k, v) :: E.drop L).length = n + 1 := by
    rw [List.length_append, List.length_cons, HL1.out, HL3.out]
    omega
  have hge := HR.out.ge
  have hkf : [] ++ ksE (E.take L) ++ [Value.string k] ++ ksE (E.drop L) = ksE (E.take L ++ (k, v) :: E.drop L) := by simp [ksE]
  have hvf : [] ++ vsE (E.take L) ++ [Value.int .i64 v] ++ vsE (E.drop L) = vsE (E.take L ++ (k, v) :: E.drop L) := by simp [vsE]
  rw [hkf] at o5f
  rw [hvf] at o6f
  have HRT : RT B (w6.setCell ⟨rb, 1, none⟩ (.slice x6 (n + 1) k6)) rb (E.take L ++ (k, v) :: E.drop L) x5 k5 x6 k6 := ⟨by rw [hlen]; exact T7, by rw [hlen]; exact own_mono o5f (by omega), by rw [hlen]; exact own_mono o6f (by omega), hge⟩
  have HF := Lib.hid HRT
  have HC := Lib.hid (C6.more (l' := rtF rb E.length kc vc ka va) (fun q hq => .inl (by rw [List.mem_singleton.1 hq]; simp [rtF])))
  clear HRT C6 T7 o5f o6f T6
  go_wp2_with fail
  go_ret3
  exact ⟨rfl, _, _, _, _, HF.out, HC.out⟩

theorem putE_yes {E : List Ent} {k : ByteArray} {v : Int} (hh : hasE E k = true) : putE E k v = E.set (lbE E k) (k, v) := by unfold putE; rw [if_pos hh]
theorem ks_set {E : List Ent} {k : ByteArray} {v : Int} (hh : hasE E k = true) : ksE (E.set (lbE E k) (k, v)) = ksE E := by
  obtain ⟨u, hu⟩ := has_at hh
  unfold ksE
  rw [List.map_set]
  have hl := has_lt hh
  have e : (E.map fun e : Ent => Value.string e.1)[lbE E k]? = some (.string k) := by rw [List.getElem?_map, hu]; rfl
  refine List.ext_getElem? fun j => ?_
  rw [List.getElem?_set]
  by_cases hj : lbE E k = j
  · subst hj
    rw [if_pos rfl, if_pos (by simpa using hl), e]
  · rw [if_neg hj]
theorem vs_set (E : List Ent) (i : Nat) (k : ByteArray) (v : Int) : vsE (E.set i (k, v)) = (vsE E).set i (.int .i64 v) := by simp [vsE, List.map_set]

set_option maxRecDepth 100000 in
set_option maxHeartbeats 4000000 in
theorem tput_any (w : World) (B rb kc vc : Nat) (ka va : Option Addr) (E : List Ent) (hs : SortedE E) (hE : E.length ≤ 4096) (hR : RT B w rb E ka kc va vc) (k : ByteArray) (v : Int) {E' : List Ent} {r0 r2 : Int} {r1 : Bool} (hq : putSpec E k v = (E', r0, r1, r2)) :
    Calls Try.prog 69 #[.pointer (some ⟨rb, 0, none⟩), .string k, .int .i64 v] w (RPost B w rb E kc vc ka va E' #[.int .i64 r0, .bool r1, .int .i64 r2]) := by
  by_cases hk : 4096 < k.size
  · unfold putSpec at hq
    rw [if_pos hk] at hq
    simp only [Prod.mk.injEq] at hq
    obtain ⟨rfl, rfl, rfl, rfl⟩ := hq
    have hkI : (4096 : Int) < (k.size : Int) := by omega
    have HR := Lib.hid hR
    clear hR hs
    go_enter Try.func69, Try.ntmps69
    go_wp2_with fail
    go_ret3
    exact ⟨rfl, _, _, _, _, HR.out, Chg.refl _ _⟩
  · have hkI : ¬ (4096 : Int) < (k.size : Int) := by omega
    cases hh : hasE E k with
    | true =>
      have hlt := has_lt hh
      have hg : getE E k = some (E.getD (lbE E k) (emp, 0)).2 := by unfold getE; rw [if_pos hh]
      have hq2 : putSpec E k v = (putE E k v, (E.getD (lbE E k) (emp, 0)).2, true, 0) := by unfold putSpec; rw [if_neg hk, hg]
      rw [hq2] at hq
      simp only [Prod.mk.injEq] at hq
      obtain ⟨rfl, rfl, rfl, rfl⟩ := hq
      have hp := tplace_any w B rb kc vc ka va E hs hE hR k
      rw [hh] at hp
      have hks := ks_set (v := v) hh
      have hvs := vs_set E (lbE E k) k v
      rw [putE_yes hh]
      obtain ⟨b, e1, hb, cv⟩ := hR.val hlt
      subst e1
      have fv : w.frozen? ⟨b, lbE E k, none⟩ = false := hR.vals.frozenAt _
      have hst := (hR.vals.stored (lbE E k) (.int .i64 v)).1
      rw [← hvs] at hst
      have hltI : ((lbE E k : Nat) : Int) < (E.length : Int) := by omega
      have hbr : b ≠ rb := fun e => own_ne hR.vals hR.top (by decide) (by rw [← e]; rfl)
      have hkb : ∀ q, (Value.slice ka E.length kc).ownBlock = some q → q ∉ [b] := fun q hq hm => own_own hR.keys hR.vals (by decide) q hq (by rw [List.mem_singleton.1 hm]; rfl)
      have hcs : Chg [b] w (w.setCell ⟨b, lbE E k, none⟩ (.int .i64 v)) := (Chg.refl [b] w).setCell (.inl (by simp)) _
      have hRT : RT B (w.setCell ⟨b, lbE E k, none⟩ (.int .i64 v)) rb (E.set (lbE E k) (k, v)) ka kc (some ⟨b, 0, none⟩) vc := ⟨by rw [List.length_set]; exact hR.top.chg hcs (fun hm => hbr (List.mem_singleton.1 hm).symm), by rw [List.length_set, hks]; exact own_chg hR.keys hcs hkb, by rw [List.length_set]; exact hst, hR.ge⟩
      have hC : Chg (rtF rb E.length kc vc ka (some ⟨b, 0, none⟩)) w (w.setCell ⟨b, lbE E k, none⟩ (.int .i64 v)) := hcs.more fun q hq => .inl (by rw [List.mem_singleton.1 hq]; simp [rtF, Value.ownBlock])
      have c1 := hR.c1
      have HRT := Lib.hid hRT
      have HC := Lib.hid hC
      clear hh hg hR hs hst hcs hRT hC hks hvs hq2 hkb
      generalize (E.getD (lbE E k) (emp, 0)).2 = u at *
      generalize lbE E k = L at *
      go_enter Try.func69, Try.ntmps69
      go_wp2_with (go_at_call 82; refine hp.mono ?_; rintro e w2 ⟨rfl, q, rfl⟩)
      go_ret3
      exact ⟨rfl, _, _, _, _, HRT.out.drewN q, HC.out.drewN q⟩
    | false =>
      have hg : getE E k = none := by unfold getE; rw [if_neg (by simp [hh])]
      by_cases hf : 4096 ≤ E.length
      · have hq2 : putSpec E k v = (E, 0, false, 2) := by unfold putSpec; rw [if_neg hk, hg]; dsimp only; rw [if_pos hf]
        rw [hq2] at hq
        simp only [Prod.mk.injEq] at hq
        obtain ⟨rfl, rfl, rfl, rfl⟩ := hq
        have hp := tplace_any w B rb kc vc ka va E hs hE hR k
        rw [hh] at hp
        have c0 := hR.c0
        have hfI : (4096 : Int) ≤ (E.length : Int) := by omega
        have HR := Lib.hid hR
        clear hR hs hh hg hq2
        generalize lbE E k = L at *
        go_enter Try.func69, Try.ntmps69
        go_wp2_with (go_at_call 82; refine hp.mono ?_; rintro e w2 ⟨rfl, q, rfl⟩)
        go_ret3
        exact ⟨rfl, _, _, _, _, HR.out.drewN q, (Chg.refl _ _).drewN q⟩
      · have hq2 : putSpec E k v = (putE E k v, 0, false, 0) := by unfold putSpec; rw [if_neg hk, hg]; dsimp only; rw [if_neg hf]
        rw [hq2] at hq
        simp only [Prod.mk.injEq] at hq
        obtain ⟨rfl, rfl, rfl, rfl⟩ := hq
        exact tput_new w B rb kc vc ka va E hs (by omega) hR k (by omega) hh v

theorem takeE_yes {E : List Ent} {k : ByteArray} (hh : hasE E k = true) : takeE E k = E.take (lbE E k) ++ E.drop (lbE E k + 1) := by
  unfold takeE
  rw [if_pos hh, List.eraseIdx_eq_take_drop_succ]

set_option maxRecDepth 100000 in
set_option maxHeartbeats 4000000 in
theorem ttake_yes (w : World) (B rb kc vc : Nat) (ka va : Option Addr) (E : List Ent) (hs : SortedE E) (hE : E.length ≤ 4096) (hR : RT B w rb E ka kc va vc) (k : ByteArray) (hh : hasE E k = true) :
    Calls Try.prog 71 #[.pointer (some ⟨rb, 0, none⟩), .string k] w (RPost B w rb E kc vc ka va (takeE E k) #[.int .i64 (E.getD (lbE E k) (emp, 0)).2, .int .i64 0]) := by
  have hp := tplace_any w B rb kc vc ka va E hs hE hR k
  rw [hh] at hp
  rw [takeE_yes hh]
  have hle := has_lt hh
  obtain ⟨b, eb, hbl, cv⟩ := hR.val hle
  obtain ⟨n, hn⟩ : ∃ n, n = E.length := ⟨_, rfl⟩
  obtain ⟨L, hL⟩ : ∃ L, L = lbE E k := ⟨_, rfl⟩
  rw [← hL] at hp hle cv ⊢
  rw [← hn] at hle hE
  have hsz : ∀ W, (sizeOf (Try.prog.elem 44)).run Try.prog W = .ok 1 W := fun W => by kernel_rfl
  have hsz2 : ∀ W, (sizeOf (Try.prog.elem 62)).run Try.prog W = .ok 1 W := fun W => by kernel_rfl
  obtain ⟨a1, q1, hs1, hn1⟩ := sl_head (t := 44) (by kernel_rfl) hsz hR.keys (L := L) (by omega)
  obtain ⟨a2, q2, hs2, hn2⟩ := sl_head (t := 62) (by kernel_rfl) hsz2 hR.vals (L := L) (by omega)
  obtain ⟨a3, q3, hs3, hn3⟩ := sl_tail (t := 44) (by kernel_rfl) hsz hR.keys (L := L + 1) (by omega)
  obtain ⟨a4, q4, hs4, hn4⟩ := sl_tail (t := 62) (by kernel_rfl) hsz2 hR.vals (L := L + 1) (by omega)
  have e1 : (ksE E).take L = ksE (E.take L) := by simp [ksE, List.map_take]
  have e2 : (vsE E).take L = vsE (E.take L) := by simp [vsE, List.map_take]
  have e3 : (ksE E).drop (L + 1) = ksE (E.drop (L + 1)) := by simp [ksE, List.map_drop]
  have e4 : (vsE E).drop (L + 1) = vsE (E.drop (L + 1)) := by simp [vsE, List.map_drop]
  rw [e1] at hn1
  rw [e2] at hn2
  rw [e3] at hn3
  rw [e4] at hn4
  have l1 : (E.take L).length = L := by rw [List.length_take]; omega
  have l3 : (E.drop (L + 1)).length = n - (L + 1) := by rw [List.length_drop]; omega
  have c0 := hR.c0
  have c1 := hR.c1
  rw [← hn] at c0 c1 hs1 hs2 hs3 hs4
  have hw1 : IntKind.i64.wrap ((L : Int) + 1) = ((L + 1 : Nat) : Int) := by rw [IntKind.wrap_i64]; omega
  have hw2 : ((L : Int) + 1) = ((L + 1 : Nat) : Int) := by omega
  rw [← hw2] at hs3 hs4
  have hltI : (L : Int) < (n : Int) := by omega
  have hrl := hR.top.lt
  have f0 := hR.top.free 0
  have f1 := hR.top.free 1
  have HN1 := Lib.hid hn1
  have HN2 := Lib.hid hn2
  have HN3 := Lib.hid hn3
  have HN4 := Lib.hid hn4
  have HR := Lib.hid hR
  have HL1 := Lib.hid l1
  have HL3 := Lib.hid l3
  have HNE := Lib.hid hn
  obtain ⟨i9, hi9, hz90, hz91, hz92⟩ := info_parts Try.info9
  obtain ⟨i3, hi3, hz30, hz31, hz32⟩ := info_parts Try.info3'
  have HI9 := Lib.hid hi9
  have HI3 := Lib.hid hi3
  have HEB := Lib.hid eb
  have cv' : w.cell? ⟨b, L, none⟩ = some (.int .i64 (E.getD L (emp, 0)).2) := cv
  clear hn1 hn2 hn3 hn4 hR e1 e2 e3 e4 l1 l3 hh hs hL hn hi9 hi3 cv hw2
  generalize (E.getD L (emp, 0)).2 = u at cv' ⊢
  go_enter Try.func71, Try.ntmps71
  subst eb
  go_upto_region 7 with (go_at_call 82; refine hp.mono ?_; rintro e w0 ⟨rfl, q, rfl⟩)
  have C0 : Chg [] w (w.drewN q) := (Chg.refl [] w).drewN q
  have z0 : w.heap.size ≤ (w.drewN q).heap.size := C0.size
  have ck0 : (w.drewN q).cell? ⟨rb, 0, none⟩ = some (.slice ka n kc) := c0
  have ck1 : (w.drewN q).cell? ⟨rb, 1, none⟩ = some (.slice (some ⟨b, 0, none⟩) n vc) := c1
  generalize w.drewN q = W0 at C0 z0 ck0 ck1 ⊢
  clear c0 c1 cv'
  have hrbL : ∀ {w' : World}, Chg [] w w' → w'.cell? ⟨rb, 0, none⟩ = some (.slice ka n kc) := fun hc => by rw [HNE.out]; exact (HR.out.chg0 hc).c0
  have hrbV : ∀ {w' : World}, Chg [] w w' → w'.cell? ⟨rb, 1, none⟩ = some (.slice (some ⟨b, 0, none⟩) n vc) := fun hc => by rw [HNE.out]; exact (HR.out.chg0 hc).c1
  have hrbF : ∀ {w' : World}, Chg [] w w' → ∀ j, w'.frozen? ⟨rb, j, none⟩ = false := fun hc j => (HR.out.chg0 hc).top.free j
  go_upto_region 10 with (first
    | (at_builtin; refine wpList_append_to rfl (.tmp 43) (.tmp 50) 44 rfl w.heap.size 9 i9 (.string ⟨#[]⟩) 1 16 (by kernel_rfl) HI9.out hz90 hz91 hz92 rfl (by decide) (.slice x1 L k1) L _ rfl o1k a3 (n - (L + 1)) q3 (ksE (E.drop (L + 1))) rfl (cutLen (by rw [ksE_len, HL3.out])) ((HN3.out.chg C2 (by simp)).news) (ksE_one _) (n - 1) (by omega) _ rfl (by unfold maxLen; omega) (by omega) (by omega) ?_; intro x5 k5 w5 o5 g5; have C5 := chg_fresh C2 o1k (Nat.le_refl _) g5; have z5 := C5.size; have o4k := own_kept o2 o1k (by decide) g5; have rc5 := hrbL C5; have rv5 := hrbV C5; have rf5 := hrbF C5 0; have rf51 := hrbF C5 1)
    | (at_builtin; refine wpList_append_to rfl (.tmp 34) (.tmp 40) 62 rfl w.heap.size 3 i3 (.int .i64 0) 1 8 (by kernel_rfl) HI3.out hz30 hz31 hz32 rfl (by decide) (.slice none 0 0) 0 [] rfl (World.ownsRow_nil _ _ _ _) a2 L q2 (vsE (E.take L)) rfl (cutLen (by rw [vsE_len, HL1.out])) ((HN2.out.chg C1 (by simp)).news) (vsE_one _) L (by omega) _ rfl (by unfold maxLen; omega) (by omega) (by omega) ?_; intro x2 k2 w2 o2 g2; have C2 := C1.trans (chg_nil g2) (by simp); have z2 := C2.size; have o1k := own_chg o1 (chg_nil g2) (by simp); have rc2 := hrbL C2; have rv2 := hrbV C2)
    | (at_builtin; refine wpList_append_to rfl (.tmp 26) (.tmp 32) 44 rfl w.heap.size 9 i9 (.string ⟨#[]⟩) 1 16 (by kernel_rfl) HI9.out hz90 hz91 hz92 rfl (by decide) (.slice none 0 0) 0 [] rfl (World.ownsRow_nil _ _ _ _) a1 L q1 (ksE (E.take L)) rfl (cutLen (by rw [ksE_len, HL1.out])) ((HN1.out.chg C0 (by simp)).news) (ksE_one _) L (by omega) _ rfl (by unfold maxLen; omega) (by omega) z0 ?_; intro x1 k1 w1 o1 g1; have C1 := C0.trans (chg_nil g1) (by simp); have z1 := C1.size; have rc1 := hrbL C1; have rv1 := hrbV C1))
  have hx5 : ∀ q, (Value.slice x5 (n - 1) k5).ownBlock = some q → q ∉ [rb] := fun q hq hm => by
    have := below_own o5 q hq
    have := List.mem_singleton.1 hm
    omega
  have hx4' : ∀ q, (Value.slice x2 L k2).ownBlock = some q → q ∉ [rb] := fun q hq hm => by
    have := below_own o4k q hq
    have := List.mem_singleton.1 hm
    omega
  have hx4 : rb ∉ (Value.slice x2 L k2).ownBlock.toList := fun hm => hx4' rb (Option.mem_toList.1 hm) (by simp)
  have T5 : Blk w5 rb 81 #[.slice ka n kc, .slice (some ⟨b, 0, none⟩) n vc] := by rw [HNE.out]; exact (HR.out.chg0 C5).top
  have cs : Chg [rb] w5 (w5.setCell ⟨rb, 0, none⟩ (.slice x5 (n - 1) k5)) := (Chg.refl [rb] w5).setCell (.inl (by simp)) _
  have C5s : Chg [rb] w (w5.setCell ⟨rb, 0, none⟩ (.slice x5 (n - 1) k5)) := (C5.more (l' := [rb]) (by simp)).setCell (.inl (by simp)) _
  have T5s : Blk (w5.setCell ⟨rb, 0, none⟩ (.slice x5 (n - 1) k5)) rb 81 #[.slice x5 (n - 1) k5, .slice (some ⟨b, 0, none⟩) n vc] := Blk.conv (T5.set 0 _) rfl
  have o4s := own_chg o4k cs hx4'
  have o5s := own_chg o5 cs hx5
  have hvn : ∀ q, (Value.slice (some ⟨b, 0, none⟩) E.length vc).ownBlock = some q → q ∉ [rb] := fun q hq hm => own_ne HR.out.vals HR.out.top (by decide) (by rw [hq, List.mem_singleton.1 hm])
  have z5s := C5s.size
  have rv5s : (w5.setCell ⟨rb, 0, none⟩ (.slice x5 (n - 1) k5)).cell? ⟨rb, 1, none⟩ = some (.slice (some ⟨b, 0, none⟩) n vc) := T5s.at 1 rfl
  have hl5 : rb < (w5.setCell ⟨rb, 0, none⟩ (.slice x5 (n - 1) k5)).heap.size := T5s.lt
  generalize (w5.setCell ⟨rb, 0, none⟩ (.slice x5 (n - 1) k5)) = W5 at C5s T5s o4s o5s z5s rv5s hl5 ⊢
  clear rc1 rv1 rc2 rv2 rc5 rv5 rf5 rf51 C1 C2 z1 z2 z5 o1 o1k o2 o4k o5 g1 g2 g5 ck0 ck1 z0 C0 cs T5 C5
  go_wp2_with (at_builtin; refine wpList_append_to rfl (.tmp 55) (.tmp 62) 62 rfl w.heap.size 3 i3 (.int .i64 0) 1 8 (by kernel_rfl) HI3.out hz30 hz31 hz32 rfl (by decide) (.slice x2 L k2) L _ rfl o4s a4 (n - (L + 1)) q4 (vsE (E.drop (L + 1))) rfl (cutLen (by rw [vsE_len, HL3.out])) ((HN4.out.chg C5s hvn).news) (vsE_one _) (n - 1) (by omega) _ rfl (by unfold maxLen; omega) (by omega) (by omega) ?_; intro x6 k6 w6 o6 g6; have T6 := T5s.chg (Chg.of_grown (l := (Value.slice x2 L k2).ownBlock.toList) g6 fun q hq => .inl (by simpa using hq)) hx4; have r60 : w6.cell? ⟨rb, 1, none⟩ = some (.slice (some ⟨b, 0, none⟩) n vc) := T6.at 1 rfl; have f60 := T6.free 1; have l60 := T6.lt)
  have o5f := own_chg (own_kept o5s o4s (by decide) g6) ((Chg.refl [rb] w6).setCell (p := ⟨rb, 1, none⟩) (.inl (by simp)) (.slice x6 (n - 1) k6)) hx5
  have o6f := own_chg o6 ((Chg.refl [rb] w6).setCell (p := ⟨rb, 1, none⟩) (.inl (by simp)) (.slice x6 (n - 1) k6)) (fun q hq hm => by
    have := below_own o6 q hq
    have := List.mem_singleton.1 hm
    omega)
  have C6 := (chg_fresh C5s o4s (Nat.le_refl _) g6).setCell (p := ⟨rb, 1, none⟩) (.inl (by simp)) (.slice x6 (n - 1) k6)
  have T7 : Blk (w6.setCell ⟨rb, 1, none⟩ (.slice x6 (n - 1) k6)) rb 81 #[.slice x5 (n - 1) k5, .slice x6 (n - 1) k6] := Blk.conv (T6.set 1 _) rfl
  have hlen : (E.take L ++ E.drop (L + 1)).length = n - 1 := by
    rw [List.length_append, HL1.out, HL3.out]
    omega
  have hge := HR.out.ge
  have hkf : [] ++ ksE (E.take L) ++ ksE (E.drop (L + 1)) = ksE (E.take L ++ E.drop (L + 1)) := by simp [ksE]
  have hvf : [] ++ vsE (E.take L) ++ vsE (E.drop (L + 1)) = vsE (E.take L ++ E.drop (L + 1)) := by simp [vsE]
  rw [hkf] at o5f
  rw [hvf] at o6f
  have HRT : RT B (w6.setCell ⟨rb, 1, none⟩ (.slice x6 (n - 1) k6)) rb (E.take L ++ E.drop (L + 1)) x5 k5 x6 k6 := ⟨by rw [hlen]; exact T7, by rw [hlen]; exact own_mono o5f (by omega), by rw [hlen]; exact own_mono o6f (by omega), hge⟩
  have HF := Lib.hid HRT
  have HC := Lib.hid (C6.more (l' := rtF rb E.length kc vc ka (some ⟨b, 0, none⟩)) (fun q hq => .inl (by rw [List.mem_singleton.1 hq]; simp [rtF])))
  clear HRT C6 T7 o5f o6f T6
  go_wp2_with fail
  go_ret2
  exact ⟨rfl, _, _, _, _, HF.out, HC.out⟩

set_option maxRecDepth 100000 in
theorem ttake_any (w : World) (B rb kc vc : Nat) (ka va : Option Addr) (E : List Ent) (hs : SortedE E) (hE : E.length ≤ 4096) (hR : RT B w rb E ka kc va vc) (k : ByteArray) {E' : List Ent} {r0 r2 : Int} (hq : takeSpec E k = (E', r0, r2)) :
    Calls Try.prog 71 #[.pointer (some ⟨rb, 0, none⟩), .string k] w (RPost B w rb E kc vc ka va E' #[.int .i64 r0, .int .i64 r2]) := by
  cases hh : hasE E k with
  | true =>
    have hg : getE E k = some (E.getD (lbE E k) (emp, 0)).2 := by unfold getE; rw [if_pos hh]
    have hq2 : takeSpec E k = (takeE E k, (E.getD (lbE E k) (emp, 0)).2, 0) := by unfold takeSpec; rw [hg]
    rw [hq2] at hq
    simp only [Prod.mk.injEq] at hq
    obtain ⟨rfl, rfl, rfl⟩ := hq
    exact ttake_yes w B rb kc vc ka va E hs hE hR k hh
  | false =>
    have hg : getE E k = none := by unfold getE; rw [if_neg (by simp [hh])]
    have hq2 : takeSpec E k = (E, 0, 5) := by unfold takeSpec; rw [hg]
    rw [hq2] at hq
    simp only [Prod.mk.injEq] at hq
    obtain ⟨rfl, rfl, rfl⟩ := hq
    have hp := tplace_any w B rb kc vc ka va E hs hE hR k
    rw [hh] at hp
    have HR := Lib.hid hR
    clear hR hs hh hg hq2
    generalize lbE E k = L at *
    go_enter Try.func71, Try.ntmps71
    go_wp2_with (go_at_call 82; refine hp.mono ?_; rintro e w2 ⟨rfl, q, rfl⟩)
    go_ret2
    exact ⟨rfl, _, _, _, _, HR.out.drewN q, (Chg.refl _ _).drewN q⟩

theorem filter_lb {E : List Ent} (hs : SortedE E) (fr : ByteArray) : (E.filter fun e => !bl e.1 fr) = E.drop (lbE E fr) := by
  have h : E.take (lbE E fr) ++ E.drop (lbE E fr) = E := List.take_append_drop _ _
  have h1 : (E.take (lbE E fr)).filter (fun e => !bl e.1 fr) = [] := List.filter_eq_nil_iff.2 fun e he => by rw [lt_take e he]; decide
  have h2 : (E.drop (lbE E fr)).filter (fun e => !bl e.1 fr) = E.drop (lbE E fr) := List.filter_eq_self.2 fun e he => by rw [ge_drop hs e he]; rfl
  calc (E.filter fun e => !bl e.1 fr) = ((E.take (lbE E fr) ++ E.drop (lbE E fr)).filter fun e => !bl e.1 fr) := by rw [h]
    _ = E.drop (lbE E fr) := by rw [List.filter_append, h1, h2, List.nil_append]
def scanC (E : List Ent) (fr tk : ByteArray) (most : Int) : List Ent × Int := if most < 1 ∨ 4096 < most then ([], 1) else (scanE E fr tk most.toNat, 0)
/-- Behind Scan. -/
def RScan (w : World) (R : List Ent) (c : Int) (e : Ending) (w' : World) : Prop :=
  ∃ xk kk xv kv, e = .returned (.tuple #[.slice xk R.length kk, .slice xv R.length kv, .int .i64 c]) ∧ w'.ownsRow w.heap.size 9 1 (.slice xk R.length kk) R.length (ksE R) ∧ w'.ownsRow w.heap.size 3 1 (.slice xv R.length kv) R.length (vsE R) ∧ Chg [] w w'
theorem goE_end {tk : ByteArray} {most : Nat} {e : Ent} {E A : List Ent} (h : A.length = most ∨ (tk ≠ emp ∧ bl e.1 tk = false)) : goE tk most (e :: E) A = A := by
  unfold goE
  rw [if_pos]
  rcases h with h | ⟨h1, h2⟩
  · simp [h]
  · simp [h1, h2]
theorem goE_on {tk : ByteArray} {most : Nat} {e : Ent} {E A : List Ent} (h : A.length ≠ most) (h2 : tk = emp ∨ bl e.1 tk = true) : goE tk most (e :: E) A = goE tk most E (A ++ [e]) := by
  conv => lhs; unfold goE
  rw [if_neg]
  rcases h2 with h2 | h2
  · simp [h, h2]
  · simp [h, h2]

theorem cell_kept {w w1 w2 : World} {p : Addr} {u : Value} (h1 : Chg [] w w1) (h2 : Chg [] w w2) (hb : p.block < w.heap.size) (hu : w1.cell? p = some u) : w2.cell? p = some u :=
  (h2.cell hb (by simp)).trans ((h1.cell hb (by simp)).symm.trans hu)

set_option maxRecDepth 100000 in
set_option maxHeartbeats 4000000 in
theorem tscan_any (w : World) (B rb kc vc : Nat) (ka va : Option Addr) (E : List Ent) (hs : SortedE E) (hE : E.length ≤ 4096) (hR : RT B w rb E ka kc va vc) (fr tk : ByteArray) (most : Int) {R : List Ent} {c : Int} (hq : scanC E fr tk most = (R, c)) :
    Calls Try.prog 72 #[.pointer (some ⟨rb, 0, none⟩), .string fr, .string tk, .int .i64 most] w (RScan w R c) := by
  unfold scanC at hq
  by_cases hm : most < 1 ∨ 4096 < most
  · rw [if_pos hm] at hq
    simp only [Prod.mk.injEq] at hq
    obtain ⟨rfl, rfl⟩ := hq
    clear hR hs
    rcases Decidable.em (most < 1) with h1 | h1
    · have hd : decide (most < 1) = true := decide_eq_true h1
      clear hm
      go_enter Try.func72, Try.ntmps72
      go_wp2_with fail
      go_ret3
      exact ⟨none, 0, none, 0, rfl, World.ownsRow_nil _ _ _ _, World.ownsRow_nil _ _ _ _, Chg.refl _ _⟩
    · have h2 : 4096 < most := by omega
      have hd : decide (most < 1) = false := decide_eq_false h1
      have hd2 : decide (4096 < most) = true := decide_eq_true h2
      clear hm
      go_enter Try.func72, Try.ntmps72
      go_wp2_with fail
      go_ret3
      exact ⟨none, 0, none, 0, rfl, World.ownsRow_nil _ _ _ _, World.ownsRow_nil _ _ _ _, Chg.refl _ _⟩
  · rw [if_neg hm] at hq
    simp only [Prod.mk.injEq] at hq
    obtain ⟨hq, rfl⟩ := hq
    have h1 : ¬ most < 1 := fun h => hm (.inl h)
    have h2 : ¬ 4096 < most := fun h => hm (.inr h)
    obtain ⟨M, rfl⟩ := Int.eq_ofNat_of_zero_le (show 0 ≤ most by omega)
    rw [Int.toNat_natCast] at hq
    unfold scanE at hq
    rw [filter_lb hs] at hq
    have hd : decide ((M : Int) < 1) = false := decide_eq_false h1
    have hd2 : decide (4096 < (M : Int)) = false := decide_eq_false h2
    have hp := tplace_any w B rb kc vc ka va E hs hE hR fr
    have hle := lbE_le E fr
    obtain ⟨n, hn⟩ : ∃ n, n = E.length := ⟨_, rfl⟩
    rw [← hn] at hle hE
    have HQ := Lib.hid hq
    have HR := Lib.hid hR
    have HN := Lib.hid hn
    obtain ⟨i9, hi9, hz90, hz91, hz92⟩ := info_parts Try.info9
    obtain ⟨i3, hi3, hz30, hz31, hz32⟩ := info_parts Try.info3'
    have HI9 := Lib.hid hi9
    have HI3 := Lib.hid hi3
    clear hq hR hs hm hn hi9 hi3
    generalize lbE E fr = L at *
    generalize hasE E fr = hb at *
    go_enter Try.func72, Try.ntmps72
    go_wp2_with (go_at_call 82; refine hp.mono ?_; rintro e w2 ⟨rfl, q, rfl⟩)
    go_loopg [11, 12, 13] (n - L) (fun gn vk vv i wr => ∃ (j m : Nat) (A : List Ent) (xk : Option Addr) (kk : Nat) (xv : Option Addr) (kv : Nat), j ≤ n ∧ m = A.length ∧ m ≤ M ∧ vk = .slice xk m kk ∧ vv = .slice xv m kv ∧ i = .int .i64 j ∧ gn = n - j ∧
      wr.ownsRow w.heap.size 9 1 (.slice xk m kk) m (ksE A) ∧ wr.ownsRow w.heap.size 3 1 (.slice xv m kv) m (vsE A) ∧ Chg [] w wr ∧ goE tk M (E.drop j) A = R)
    case atStart => exact ⟨L, 0, [], none, 0, none, 0, hle, rfl, Nat.zero_le _, rfl, rfl, rfl, rfl, World.ownsRow_nil _ _ _ _, World.ownsRow_nil _ _ _ _, (Chg.refl [] w).drewN q, HQ.out⟩
    case round =>
      obtain ⟨j, m, A, xk, kk, xv, kv, hj, hm, hmM, rfl, rfl, rfl, rfl, hok, hov, hc, hgo⟩ := hrel
      have c0 : wr.cell? ⟨rb, 0, none⟩ = some (.slice ka n kc) := by rw [HN.out]; exact (HR.out.chg0 hc).c0
      have c1 : wr.cell? ⟨rb, 1, none⟩ = some (.slice va n vc) := by rw [HN.out]; exact (HR.out.chg0 hc).c1
      have hwz := hc.size
      by_cases hjn : j < n
      · have hjI : (j : Int) < (n : Int) := by omega
        have hjE : j < E.length := by rw [← HN.out]; exact hjn
        have hdr : E.drop j = E.getD j (emp, 0) :: E.drop (j + 1) := by rw [List.drop_eq_getElem_cons hjE]; simp [List.getD, hjE]
        rw [hdr] at hgo
        obtain ⟨bk, rfl, hbk, ck⟩ := (HR.out.chg0 hc).key hjE
        obtain ⟨bv, ebv, hbv, cv⟩ := (HR.out.chg0 hc).val hjE
        have hbv0 : bv < w.heap.size := by
          obtain ⟨b0, e0, hb0, _⟩ := HR.out.val hjE
          rw [ebv] at e0
          injection e0 with e0
          injection e0 with e0
          omega
        subst ebv
        have HOK := Lib.hid hok
        have HOV := Lib.hid hov
        have HCC := Lib.hid hc
        clear hok hov hc hdr hjE
        generalize E.getD j (emp, 0) = e at *
        obtain ⟨kx, vx⟩ := e
        dsimp only at ck cv hgo
        by_cases hful : m = M
        · subst hful
          rw [goE_end (.inl (by omega))] at hgo
          have hmI : ¬ (m : Int) < (m : Int) := by omega
          have HGO := Lib.hid hgo
          have HM := Lib.hid hm
          clear hgo hm
          go_wp2_with fail
          go_ret3
          rw [← HGO.out]
          exact ⟨xk, kk, xv, kv, by rw [← HM.out]; rfl, by rw [← HM.out]; exact HOK.out, by rw [← HM.out]; exact HOV.out, HCC.out⟩
        · have hmI : (m : Int) < (M : Int) := by omega
          by_cases hgoes : tk = emp ∨ bl kx tk = true
          · rw [goE_on (by omega) hgoes] at hgo
            have HGO := Lib.hid hgo
            have HM := Lib.hid hm
            have hcase : tk.toList.isEmpty = true ∨ (tk.toList.isEmpty = false ∧ Op.bytesLess kx.toList tk.toList = true) := by
              rcases Decidable.em (tk = emp) with h | h
              · left; rw [h, emp_toList]; rfl
              · right
                exact ⟨ne_emp h, (hgoes.resolve_left h : bl kx tk = true)⟩
            clear hgo hm hgoes
            rcases hcase with ht | ⟨ht, hbl⟩
            all_goals
              go_wp2_with (first
                | (at_builtin; refine wpList_append_to rfl (.tmp 65) (.tmp 73) 62 rfl w.heap.size 3 i3 (.int .i64 0) 1 8 (by kernel_rfl) HI3.out hz30 hz31 hz32 rfl (by decide) (.slice xv m kv) m _ rfl (ov3.alloc _) (some ⟨w3.heap.size, 0, none⟩) 1 1 [.int .i64 vx] rfl rfl (news_blk (Blk.new w3 _ _)) (by intro u hu; simp at hu; subst hu; rfl) (m + 1) rfl _ rfl (by unfold maxLen; omega) (by omega) (by simp only [World.size_alloc]; omega) ?_; intro x4 k4 w4 o4 g4; have C4 := chg_fresh (C3.alloc _) (ov3.alloc _) (Nat.le_refl _) g4; have ok4 := own_kept (o3.alloc _) (ov3.alloc _) (by decide) g4)
                | (at_builtin; refine wpList_append_to rfl (.tmp 55) (.tmp 63) 44 rfl w.heap.size 9 i9 (.string ⟨#[]⟩) 1 16 (by kernel_rfl) HI9.out hz90 hz91 hz92 rfl (by decide) (.slice xk m kk) m _ rfl (HOK.out.alloc _) (some ⟨wr.heap.size, 0, none⟩) 1 1 [.string kx] rfl rfl (news_blk (Blk.new wr _ _)) (by intro u hu; simp at hu; subst hu; rfl) (m + 1) rfl _ rfl (by unfold maxLen; omega) (by omega) (by simp only [World.size_alloc]; omega) ?_; intro x3 k3 w3 o3 g3; have C3 := chg_fresh (HCC.out.alloc _) (HOK.out.alloc _) (Nat.le_refl _) g3; have z3 := C3.size; have ov3 := own_kept (HOV.out.alloc _) (HOK.out.alloc _) (by decide) g3; have r31 : w3.cell? ⟨rb, 1, none⟩ = some (.slice (some ⟨bv, 0, none⟩) n vc) := (by rw [HN.out]; exact (HR.out.chg0 C3).c1); have cv3 : w3.cell? ⟨bv, j, none⟩ = some (.int .i64 vx) := (cell_kept HCC.out C3 hbv0 cv)))
              go_roundg (n - (j + 1))
              case rel => exact ⟨j + 1, m + 1, A ++ [(kx, vx)], x3, k3, x4, k4, by omega, by simp [HM.out], by omega, rfl, rfl, by go_num, rfl, by simpa [ksE] using ok4, by simpa [vsE] using o4, C4, HGO.out⟩
              case measure => omega
          · have hg1 : tk ≠ emp := fun h => hgoes (.inl h)
            have hg2 : bl kx tk = false := by
              cases hh : bl kx tk with
              | true => exact absurd (.inr hh) hgoes
              | false => rfl
            rw [goE_end (.inr ⟨hg1, hg2⟩)] at hgo
            have ht : tk.toList.isEmpty = false := ne_emp hg1
            have hbl : Op.bytesLess kx.toList tk.toList = false := hg2
            have HGO := Lib.hid hgo
            have HM := Lib.hid hm
            clear hgo hm hgoes hg1 hg2
            go_wp2_with fail
            go_ret3
            rw [← HGO.out]
            exact ⟨xk, kk, xv, kv, by rw [← HM.out]; rfl, by rw [← HM.out]; exact HOK.out, by rw [← HM.out]; exact HOV.out, HCC.out⟩
      · obtain rfl : j = n := by omega
        rw [List.drop_of_length_le (by rw [← HN.out]; exact Nat.le_refl _)] at hgo
        have hgo2 : A = R := hgo
        have HGO := Lib.hid hgo2
        have HM := Lib.hid hm
        have HOK := Lib.hid hok
        have HOV := Lib.hid hov
        have HCC := Lib.hid hc
        clear hgo hgo2 hm hok hov hc
        go_wp2_with fail
        go_ret3
        rw [← HGO.out]
        exact ⟨xk, kk, xv, kv, by rw [← HM.out]; rfl, by rw [← HM.out]; exact HOK.out, by rw [← HM.out]; exact HOV.out, HCC.out⟩

set_option maxRecDepth 100000 in
set_option maxHeartbeats 4000000 in
theorem scan_bad (w : World) (tb : Nat) (fr tk : ByteArray) (most : Int) (hm : most < 1 ∨ 4096 < most) :
    Calls Try.prog 47 #[.pointer (some ⟨tb, 0, none⟩), .string fr, .string tk, .int .i64 most] w fun e w' => e = .returned (.tuple #[.slice none 0 0, .slice none 0 0, .slice none 0 0, .int .i64 1]) ∧ Below w.heap.size w w' := by
  refine (callsIn_wide (n := 6)).1 ?_
  refine callsIn_of_wp_marks Try.func47 rfl trivial ?_ rfl
  simp only [Try.ntmps47, List.size_toArray, List.length_cons, List.length_nil, Nat.reduceAdd, Nat.reduceSub, Array.replicate_succ, Array.replicate_zero, List.push_toArray, List.append_toArray, List.nil_append, List.cons_append]
  refine wpIn_wide.2 ?_
  rcases Decidable.em (most < 1) with h1 | h1
  · have hd : decide (most < 1) = true := decide_eq_true h1
    clear hm
    go_wp2_with fail
    refine ⟨.tuple #[.slice none 0 0, .slice none 0 0, .slice none 0 0, .int .i64 1], by simp [results, Try.results47, go_sem], rfl, ?_⟩
    (repeat first | with_reducible refine Below.drew ?_ | with_reducible refine below_drewN ?_ _ | with_reducible refine Below.alloc ?_ (by simp only [World.size_alloc]; omega) _ | with_reducible refine Below.setCell ?_ (by dsimp only; omega) _)
    exact (Below.refl _ w).alloc (Nat.le_refl _) _
  · have hd : decide (most < 1) = false := decide_eq_false h1
    have h2 : 4096 < most := by omega
    have hd2 : decide (4096 < most) = true := decide_eq_true h2
    clear hm
    go_wp2_with fail
    refine ⟨.tuple #[.slice none 0 0, .slice none 0 0, .slice none 0 0, .int .i64 1], by simp [results, Try.results47, go_sem], rfl, ?_⟩
    (repeat first | with_reducible refine Below.drew ?_ | with_reducible refine below_drewN ?_ _ | with_reducible refine Below.alloc ?_ (by simp only [World.size_alloc]; omega) _ | with_reducible refine Below.setCell ?_ (by dsimp only; omega) _)
    exact (Below.refl _ w).alloc (Nat.le_refl _) _

set_option maxRecDepth 100000 in
set_option maxHeartbeats 2000000 in
/-- All of a row of numbers is written over. -/
theorem spoil_any (w : World) (v : Value) (n B : Nat) (xs : List Value) (ho : w.ownsRow B 3 1 v n xs) (x : Int) :
    Calls Try.prog 73 #[v, .int .i64 x] w fun e w' => e = .returned (.tuple #[]) ∧ Chg v.ownBlock.toList w w' := by
  rcases ho.2 with ⟨rfl, h0⟩ | ⟨g, cap, cur, rfl, _, hg, h3, h4, h5, _⟩
  · go_enter Try.func73, Try.ntmps73
    go_wp2_with fail
    go_loopg [4] 0 (fun gn iv wr => iv = .int .i64 0 ∧ gn = 0 ∧ wr = w)
    case atStart => exact ⟨rfl, rfl, rfl⟩
    case round =>
      obtain ⟨rfl, rfl, rfl⟩ := hrel
      go_wp2_with fail
      go_end0
      exact ⟨rfl, Chg.refl _ _⟩
  · have hgb : Blk w g 3 cur := hg
    have hsz : cur.size = cap := by omega
    have hm : cap ≤ 9223372036854775807 := by unfold maxLen at h4; omega
    have hcap0 : (0 : Int) ≤ (cap : Int) := by omega
    have hcc : (cap : Int) ≤ (cap : Int) := by omega
    go_enter Try.func73, Try.ntmps73
    go_wp2_with fail
    go_loopg [4] cap (fun gn iv wr => ∃ (j : Nat) (cs : Array Value), iv = .int .i64 j ∧ j ≤ cap ∧ gn = cap - j ∧ Blk wr g 3 cs ∧ cs.size = cap ∧ Chg [g] w wr)
    case atStart => exact ⟨0, cur, rfl, Nat.zero_le _, rfl, hgb, hsz, Chg.refl _ _⟩
    case round =>
      obtain ⟨j, cs, rfl, hj, rfl, hB, hcs, hc⟩ := hrel
      by_cases hjl : j < cap
      · have hji : (j : Int) < (cap : Int) := by omega
        have f0 := hB.free j
        have c0 := hB.at j (v := cs[j]'(by omega)) (by simp [hcs, hjl])
        generalize cs[j]'(by omega) = old at c0
        go_wp2_with fail
        go_roundg (cap - (j + 1))
        case rel => exact ⟨j + 1, cs.setIfInBounds j (.int .i64 x), by go_num, by omega, rfl, hB.set j _, by simpa using hcs, hc.setCell (.inl (by simp)) _⟩
        case measure => omega
      · obtain rfl : j = cap := by omega
        go_wp2_with fail
        go_end0
        exact ⟨rfl, by simpa [Value.ownBlock] using hc⟩

end Go.Proofs.Ythplnecnagbedaa
