/- find of a node by its contract: the closure, the search, the slot; conditions: the node is one, and lies in memory. -/
import Derived.Test.YthplnecnagbedaaNdPure
import Derived.Test.YthplnecnagbedaaNtInsert
import Derived.BigQuiet
import Derived.Deep.QuietTactic
import Derived.IntWalk
namespace Go.Proofs.Ythplnecnagbedaa
open Go.RowKit

def ndTail (N : Nd) : List Value := N.K.map .string ++ (N.V.map (.int .i64) ++ [.int .i64 N.ins, .int .i64 N.spl])
def ndCells (N : Nd) : Array Value := (Value.int .u64 N.x :: ndTail N).toArray
section
variable {N : Nd}
theorem nd_at0 : (ndCells N)[0]? = some (.int .u64 N.x) := rfl
theorem nd_atK (hK : N.K.length = 15) {s : Nat} (hs : s < 15) : (ndCells N)[1 + s]? = some (.string (N.K.getD s emp)) := by
  have h : s < N.K.length := by omega
  show (Value.int .u64 N.x :: ndTail N).toArray[1 + s]? = _
  rw [List.getElem?_toArray, Nat.add_comm, List.getElem?_cons_succ]
  unfold ndTail
  rw [List.getElem?_append_left (by simpa using h)]
  simp [List.getD, h]
theorem nd_atV (hK : N.K.length = 15) (hV : N.V.length = 15) {s : Nat} (hs : s < 15) : (ndCells N)[16 + s]? = some (.int .i64 (N.V.getD s 0)) := by
  have h : s < N.V.length := by omega
  show (Value.int .u64 N.x :: ndTail N).toArray[16 + s]? = _
  rw [List.getElem?_toArray, show 16 + s = (15 + s) + 1 by omega, List.getElem?_cons_succ]
  unfold ndTail
  rw [List.getElem?_append_right (by simp [hK]), List.length_map, hK, Nat.add_sub_cancel_left, List.getElem?_append_left (by simpa using h)]
  simp [List.getD, h]
theorem nd_at31 (hK : N.K.length = 15) (hV : N.V.length = 15) : (ndCells N)[31]? = some (.int .i64 N.ins) := by
  show (Value.int .u64 N.x :: ndTail N).toArray[31]? = _
  rw [List.getElem?_toArray, show 31 = 30 + 1 by rfl, List.getElem?_cons_succ]
  unfold ndTail
  rw [List.getElem?_append_right (by simp [hK]), List.length_map, hK, List.getElem?_append_right (by simp [hV]), List.length_map, hV]
  rfl
theorem nd_at32 (hK : N.K.length = 15) (hV : N.V.length = 15) : (ndCells N)[32]? = some (.int .i64 N.spl) := by
  show (Value.int .u64 N.x :: ndTail N).toArray[32]? = _
  rw [List.getElem?_toArray, show 32 = 31 + 1 by rfl, List.getElem?_cons_succ]
  unfold ndTail
  rw [List.getElem?_append_right (by simp [hK]), List.length_map, hK, List.getElem?_append_right (by simp [hV]), List.length_map, hV]
  rfl
theorem nd_set0 (x : Nat) : (ndCells N).setIfInBounds 0 (.int .u64 x) = ndCells ⟨x, N.K, N.V, N.ins, N.spl⟩ := by
  unfold ndCells
  rw [List.setIfInBounds_toArray]
  rfl
theorem nd_setK (hK : N.K.length = 15) {s : Nat} (hs : s < 15) (k : ByteArray) : (ndCells N).setIfInBounds (1 + s) (.string k) = ndCells ⟨N.x, N.K.set s k, N.V, N.ins, N.spl⟩ := by
  unfold ndCells
  rw [List.setIfInBounds_toArray, Nat.add_comm, List.set_cons_succ]
  unfold ndTail
  rw [List.set_append, if_pos (by simp [hK, hs]), ← List.map_set]
theorem nd_setV (hK : N.K.length = 15) (hV : N.V.length = 15) {s : Nat} (hs : s < 15) (v : Int) : (ndCells N).setIfInBounds (16 + s) (.int .i64 v) = ndCells ⟨N.x, N.K, N.V.set s v, N.ins, N.spl⟩ := by
  unfold ndCells
  rw [List.setIfInBounds_toArray, show 16 + s = (15 + s) + 1 by omega, List.set_cons_succ]
  unfold ndTail
  rw [List.set_append, if_neg (by simp [hK]), List.length_map, hK, Nat.add_sub_cancel_left, List.set_append, if_pos (by simp [hV, hs]), ← List.map_set]
theorem nd_set31 (hK : N.K.length = 15) (hV : N.V.length = 15) (i : Nat) : (ndCells N).setIfInBounds 31 (.int .i64 i) = ndCells ⟨N.x, N.K, N.V, i, N.spl⟩ := by
  unfold ndCells
  rw [List.setIfInBounds_toArray, show 31 = 30 + 1 by rfl, List.set_cons_succ]
  unfold ndTail
  rw [List.set_append, if_neg (by simp [hK]), List.length_map, hK, List.set_append, if_neg (by simp [hV]), List.length_map, hV]
  rfl
theorem nd_set32 (hK : N.K.length = 15) (hV : N.V.length = 15) (i : Nat) : (ndCells N).setIfInBounds 32 (.int .i64 i) = ndCells ⟨N.x, N.K, N.V, N.ins, i⟩ := by
  unfold ndCells
  rw [List.setIfInBounds_toArray, show 32 = 31 + 1 by rfl, List.set_cons_succ]
  unfold ndTail
  rw [List.set_append, if_neg (by simp [hK]), List.length_map, hK, List.set_append, if_neg (by simp [hV]), List.length_map, hV]
  rfl
end

def cmpI (a k : ByteArray) : Int := if bl a k then -1 else if a = k then 0 else 1
theorem cmpI_neg {a k : ByteArray} : cmpI a k < 0 ↔ bl a k = true := by
  unfold cmpI
  split
  · rename_i h; simp [h]
  · rename_i h; split <;> simp [h]
theorem cmpI_zero {a k : ByteArray} : cmpI a k = 0 ↔ a = k := by
  unfold cmpI
  split
  · rename_i h
    constructor
    · intro h2; omega
    · rintro rfl; rw [bl_irrefl] at h; cases h
  · split
    · rename_i h; simp [h]
    · rename_i h; simp [h]
theorem beqL {a k : ByteArray} : (a.toList == k.toList) = decide (a = k) := by
  by_cases h : a = k
  · subst h; simp
  · rw [decide_eq_false h]
    simp only [beq_eq_false_iff_ne]
    exact fun e => h (ba_ext e)
theorem call75 : ∀ (args : Array Value) (W : World), (callFunc 75 args).run Try.prog W = .ok (.enter 75 args) W := fun _ _ => by kernel_rfl
theorem cmpK_any (w : World) (b g : Nat) (N : Nd) (hb : w.cell? ⟨b, 0, none⟩ = some (.pointer (some ⟨g, 0, none⟩))) (hN : Blk w g 95 (ndCells N)) (hK : N.K.length = 15) (s : Nat) (hs : s < 15) (k : ByteArray) :
    Calls Try.prog 75 #[.int .i64 s, .string k, .pointer (some ⟨b, 0, none⟩)] w fun e w' => e = .returned (.int .i64 (cmpI (N.K.getD s emp) k)) ∧ w = w' := by
  have c := hN.at (1 + s) (nd_atK hK hs)
  generalize N.K.getD s emp = a at c ⊢
  have hs1 : (s : Int) < 15 := by omega
  clear hN
  cases hl : bl a k with
  | true =>
    have hv : cmpI a k = -1 := by unfold cmpI; rw [hl]; rfl
    rw [hv]
    have h1 : Op.bytesLess a.toList k.toList = true := hl
    clear hl hv
    go_enter Try.func75, Try.ntmps75
    go_wp2
    go_ret
    exact ⟨rfl, rfl⟩
  | false =>
    have h1 : Op.bytesLess a.toList k.toList = false := hl
    by_cases he : a = k
    · have h2 : (a.toList == k.toList) = true := by rw [beqL]; exact decide_eq_true he
      rw [cmpI_zero.2 he]
      clear hl he
      go_enter Try.func75, Try.ntmps75
      go_wp2
      go_ret
      exact ⟨rfl, rfl⟩
    · have h2 : (a.toList == k.toList) = false := by rw [beqL]; exact decide_eq_false he
      have hv : cmpI a k = 1 := by unfold cmpI; rw [hl, if_neg (by simp), if_neg he]
      rw [hv]
      clear hl hv he
      go_enter Try.func75, Try.ntmps75
      go_wp2
      go_ret
      exact ⟨rfl, rfl⟩

set_option maxRecDepth 100000 in
theorem search_any (w : World) (pb b g : Nat) (N : Nd) (hok : NdOk N) (hb : w.cell? ⟨b, 0, none⟩ = some (.pointer (some ⟨g, 0, none⟩))) (hN : Blk w g 95 (ndCells N)) (hp : ∀ i, i < N.u → w.cell? ⟨pb, 1 + i, none⟩ = some (.int .i64 (N.slot i : Nat))) (k : ByteArray) :
    Calls Try.prog 74 #[.slice (some ⟨pb, 1, none⟩) N.u 15, .string k, .func (.func 75) #[] #[.pointer (some ⟨b, 0, none⟩)]] w fun e w' => e = .returned (.tuple #[.int .i64 (lbE N.ents k : Nat), .bool (hasE N.ents k)]) ∧ w = w' := by
  have hu15 := hok.u15
  have hcmp := fun i (hi : i < N.u) => cmpK_any w b g N hb hN hok.kl (N.slot i) (slot_lt hok (by omega)) k
  have hent := fun i (hi : i < N.u) => ents_at N hi
  have hel := ents_len N
  have hso := hok.sorted
  have HC := Lib.hid hcmp
  have HE := Lib.hid hent
  have HL := Lib.hid hel
  have HP := Lib.hid hp
  have HS := Lib.hid hso
  clear hcmp hent hel hp hN hok hb hso
  generalize hu : N.u = u at *
  have HU := Lib.hid hu
  clear hu
  have hcf := call75
  obtain ⟨L0, hL0⟩ : ∃ L0, L0 = lbE N.ents k := ⟨_, rfl⟩
  obtain ⟨H0, hH0⟩ : ∃ H0, H0 = hasE N.ents k := ⟨_, rfl⟩
  rw [← hL0, ← hH0]
  have HL0 := Lib.hid hL0
  have HH0 := Lib.hid hH0
  clear hL0 hH0
  go_enter Try.func74, Try.ntmps74
  go_wp2
  go_loopg [9, 10] u (fun gn i j wr => ∃ (a c : Nat), a ≤ c ∧ c ≤ u ∧ i = .int .i64 a ∧ j = .int .i64 c ∧ gn = c - a ∧ (∀ q, q < a → bl (N.ents.getD q (emp, 0)).1 k = true) ∧ (∀ q, c ≤ q → q < u → bl (N.ents.getD q (emp, 0)).1 k = false) ∧ w = wr)
  case atStart => exact ⟨0, u, Nat.zero_le _, Nat.le_refl _, rfl, rfl, by omega, fun q hq => by omega, fun q h1 h2 => by omega, rfl⟩
  case round =>
    obtain ⟨a, c, hac, hcu, rfl, rfl, rfl, hlo, hhi, rfl⟩ := hrel
    have HLO := Lib.hid hlo
    have HHI := Lib.hid hhi
    clear hlo hhi
    by_cases hlt : a < c
    · go_upto_region 5 with fail
      obtain ⟨m, hm, hm1, hm2⟩ : ∃ m : Nat, ((a : Int) + (c : Int)) / 2 = (m : Int) ∧ a ≤ m ∧ m < c := ⟨(a + c) / 2, by omega, by omega, by omega⟩
      rw [hm]
      have hmu : m < u := by omega
      have cm := HP.out m hmu
      have hc := HC.out m hmu
      have he : (N.ents.getD m (emp, 0)).1 = N.K.getD (N.slot m) emp := by rw [HE.out m hmu]; rfl
      have HEE := Lib.hid he
      clear hm he
      generalize N.K.getD (N.slot m) emp = q at hc HEE
      have hsort := fun (j : Nat) (h1 : j < N.ents.length) (h2 : j < lbE N.ents k) => lbE_lt h2
      clear hsort
      by_cases hr : cmpI q k < 0
      · have hbl := cmpI_neg.1 hr
        have hlb : m < lbE N.ents k := by
          rcases Nat.lt_or_ge m (lbE N.ents k) with h | h
          · exact h
          · have := lbE_ge HS.out h (by rw [HL.out]; exact hmu)
            rw [HEE.out, hbl] at this; cases this
        generalize cmpI q k = r at hc hr
        clear hbl
        have HLB := Lib.hid hlb
        clear hlb
        go_wp2_with (refine hc.mono ?_; rintro e w' ⟨rfl, rfl⟩)
        go_roundg (c - (m + 1))
        case rel => exact ⟨m + 1, c, by omega, hcu, by go_num, rfl, rfl, fun j hj => lbE_lt (by have := HLB.out; omega), HHI.out, rfl⟩
        case measure => omega
      · have hbl : bl q k = false := by
          cases h : bl q k with
          | false => rfl
          | true => exact absurd (cmpI_neg.2 h) hr
        have hlb : lbE N.ents k ≤ m := by
          rcases Nat.lt_or_ge m (lbE N.ents k) with h | h
          · have := lbE_lt h
            rw [HEE.out, hbl] at this; cases this
          · exact h
        generalize cmpI q k = r at hc hr
        clear hbl
        have HLB := Lib.hid hlb
        clear hlb
        go_wp2_with (refine hc.mono ?_; rintro e w' ⟨rfl, rfl⟩)
        go_roundg (m - a)
        case rel => exact ⟨a, m, hm1, by omega, rfl, rfl, rfl, HLO.out, fun j h1 h2 => lbE_ge HS.out (by have := HLB.out; omega) (by rw [HL.out]; exact h2), rfl⟩
        case measure => omega
    · obtain rfl : a = c := by omega
      have hlb : lbE N.ents k = a := lbE_of (by rw [HL.out]; exact hcu) HLO.out (fun h => HHI.out a (Nat.le_refl _) (by rw [← HL.out]; exact h))
      have hhas : hasE N.ents k = decide (a < u ∧ N.K.getD (N.slot a) emp = k) := by
        unfold hasE
        rw [hlb]
        by_cases hau : a < u
        · have hl2 : a < N.ents.length := by rw [HL.out]; exact hau
          have : N.ents[a]? = some (N.ent (N.slot a)) := by
            rw [← HE.out a hau]; simp [List.getD, hl2]
          rw [this]
          simp [hau, Nd.ent]
        · rw [List.getElem?_eq_none (by rw [HL.out]; omega)]
          simp [hau]
      obtain rfl : L0 = a := HL0.out.trans hlb
      have hhas := HH0.out.trans hhas
      clear hlb HL0 HH0
      by_cases hau : L0 < u
      · have cm := HP.out L0 hau
        have hc := HC.out L0 hau
        generalize N.K.getD (N.slot L0) emp = q at hc hhas
        by_cases hq : q = k
        · rw [decide_eq_true ⟨hau, hq⟩] at hhas
          subst hhas
          rw [cmpI_zero.2 hq] at hc
          clear hq
          go_wp2_with (refine hc.mono ?_; rintro e w' ⟨rfl, rfl⟩)
          go_ret2
          exact ⟨rfl, rfl⟩
        · rw [decide_eq_false (fun h => hq h.2)] at hhas
          subst hhas
          have hr : (cmpI q k == 0) = false := by
            simp only [beq_eq_false_iff_ne]
            exact fun h => hq (cmpI_zero.1 h)
          generalize cmpI q k = r at hc hr
          clear hq
          go_wp2_with (refine hc.mono ?_; rintro e w' ⟨rfl, rfl⟩)
          go_ret2
          exact ⟨rfl, rfl⟩
      · rw [decide_eq_false (fun h => hau h.1)] at hhas
        subst hhas
        go_wp2_with fail
        go_ret2
        exact ⟨rfl, rfl⟩

end Go.Proofs.Ythplnecnagbedaa
