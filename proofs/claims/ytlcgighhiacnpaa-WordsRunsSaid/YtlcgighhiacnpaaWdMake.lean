/- Clone, IndexFunc, ContainsFunc and the closure of Run, each by its contract; conditions: as they read. -/
import Derived.Test.YtlcgighhiacnpaaWdModel
import Derived.Test.YtlcgighhiacnpaaProg
import Derived.Maps.AppendAt
import Derived.BigQuiet
import Derived.Deep.QuietTactic
namespace Go.Proofs.Ytlcgighhiacnpaa
open Go.RowKit

def intOfV : Value → Int | .int _ q => q | _ => 0
/-- Cells that came in. -/
def RdU (w : World) (B : Nat) (ao : Option Addr) (C : List Nat) : Prop :=
  ∀ k, k < C.length → ∃ b off, ao = some ⟨b, off, none⟩ ∧ b < B ∧ w.cell? ⟨b, off + k, none⟩ = some (.int .u64 (C.getD k 0 : Nat)) ∧ C.getD k 0 < 18446744073709551616
/-- Picks that came in. -/
def RdN (w : World) (B : Nat) (ao : Option Addr) (P : List Int) : Prop :=
  ∀ k, k < P.length → ∃ b off, ao = some ⟨b, off, none⟩ ∧ b < B ∧ w.cell? ⟨b, off + k, none⟩ = some (.int .i64 (P.getD k 0))
theorem RdU.below {w w' : World} {B : Nat} {ao : Option Addr} {C : List Nat} (h : RdU w B ao C) (hb : Below B w w') : RdU w' B ao C := fun k hk => by
  obtain ⟨b, off, e, hB, c, l⟩ := h k hk
  exact ⟨b, off, e, hB, (hb.cell (p := ⟨b, _, none⟩) hB).trans c, l⟩
theorem RdN.below {w w' : World} {B : Nat} {ao : Option Addr} {P : List Int} (h : RdN w B ao P) (hb : Below B w w') : RdN w' B ao P := fun k hk => by
  obtain ⟨b, off, e, hB, c⟩ := h k hk
  exact ⟨b, off, e, hB, (hb.cell (p := ⟨b, _, none⟩) hB).trans c⟩

theorem call24 : ∀ (args : Array Value) (W : World), (callFunc 24 args).run Try.prog W = .ok (.enter 24 args) W := fun _ _ => by kernel_rfl
theorem pick_any (w : World) (tb : Nat) (ao : Option Addr) (len cap : Nat) (h : w.cell? ⟨tb, 0, none⟩ = some (.slice ao len cap)) (x : Int) :
    Calls Try.prog 24 #[.int .i64 x, .pointer (some ⟨tb, 0, none⟩)] w fun e w' => e = .returned (.bool (decide (x < 0 ∨ (len : Int) ≤ x))) ∧ w = w' := by
  by_cases h0 : x < 0
  · rw [decide_eq_true (.inl h0)]
    go_enter Try.func24, Try.ntmps24
    go_wp2
    go_ret
    exact ⟨rfl, rfl⟩
  · go_enter Try.func24, Try.ntmps24
    go_wp2
    go_ret
    exact ⟨by simp; omega, rfl⟩

/-- A number that p tells of. -/
def SomeIdx (b : Bool) (w : World) (e : Ending) (w' : World) : Prop := ∃ r : Int, e = .returned (.int .i64 r) ∧ decide (0 ≤ r) = b ∧ w = w'

theorem indexFunc_any (w : World) (B : Nat) (ao : Option Addr) (n cp : Nat) (P : List Int) (p : Int → Bool) (cap : Value) (hn : n = P.length) (hlen : P.length ≤ 1048576) (hb : RdN w B ao P)
    (hF : ∀ x : Int, Calls Try.prog 24 #[.int .i64 x, cap] w fun e w' => e = .returned (.bool (p x)) ∧ w = w') :
    Calls Try.prog 31 #[.slice ao n cp, .func (.func 24) #[] #[cap]] w (SomeIdx (P.any p) w) := by
  subst hn
  have HF := Lib.hid hF
  have HB := Lib.hid hb
  have hcf := call24
  clear hF hb
  go_enter Try.func31, Try.ntmps31
  go_wp2
  go_loop [8] (fun i => ∃ k : Nat, k ≤ P.length ∧ i = .int .i64 k ∧ (P.take k).any p = false) (fun i => P.length - (intOfV i).toNat)
  case atStart => exact ⟨0, Nat.zero_le _, rfl, rfl⟩
  case round =>
    obtain ⟨k, hk, rfl, hx⟩ := hrel
    have HX := Lib.hid hx
    clear hx
    by_cases hlt : k < P.length
    · obtain ⟨b, off, rfl, _, ck⟩ := HB.out k hlt
      have hg : P.getD k 0 = P[k] := by simp [List.getD, hlt]
      have hF := HF.out P[k]
      rw [hg] at ck
      clear hg
      have htk : (P.take (k + 1)).any p = ((P.take k).any p || p P[k]) := by
        rw [List.take_succ_eq_append_getElem hlt, List.any_append]; simp
      cases hp : p P[k] with
      | true =>
        rw [hp] at hF
        have hany : P.any p = true := List.any_eq_true.2 ⟨P[k], List.getElem_mem hlt, hp⟩
        clear hp htk HX
        go_wp2_with (refine hF.mono ?_; rintro e w' ⟨rfl, rfl⟩)
        go_ret
        exact ⟨k, rfl, by rw [hany]; simp, rfl⟩
      | false =>
        rw [hp] at hF
        rw [HX.out, hp] at htk
        have HT := Lib.hid htk
        clear hp htk HX
        go_wp2_with (refine hF.mono ?_; rintro e w' ⟨rfl, rfl⟩)
        go_round
        case rel => exact ⟨k + 1, by omega, by go_num, HT.out⟩
        case measure => simp [intOfV]; omega
    · have hany : P.any p = false := by
        have h := HX.out
        rwa [List.take_of_length_le (by omega)] at h
      clear HX
      go_wp2
      go_ret
      exact ⟨-1, rfl, by simp, rfl⟩

theorem containsFunc_any (w : World) (B : Nat) (ao : Option Addr) (n cp : Nat) (P : List Int) (p : Int → Bool) (cap : Value) (hn : n = P.length) (hlen : P.length ≤ 1048576) (hb : RdN w B ao P)
    (hF : ∀ x : Int, Calls Try.prog 24 #[.int .i64 x, cap] w fun e w' => e = .returned (.bool (p x)) ∧ w = w') :
    Calls Try.prog 23 #[.slice ao n cp, .func (.func 24) #[] #[cap]] w fun e w' => e = .returned (.bool (P.any p)) ∧ w = w' := by
  have hI := indexFunc_any w B ao n cp P p cap hn hlen hb hF
  clear hF hb hn hlen
  obtain ⟨b, hB⟩ : ∃ b, P.any p = b := ⟨_, rfl⟩
  rw [hB] at hI ⊢
  clear hB
  go_enter Try.func23, Try.ntmps23
  go_wp2_with (go_at_call 31; refine hI.mono ?_; rintro e w' ⟨r, rfl, hr, rfl⟩; subst hr)
  go_ret
  exact ⟨rfl, rfl⟩

theorem Try.info38 : (Try.prog.info? 38).map (fun i => (i.zero, i.size, i.bytes)) = some (some (.int .u64 0), 1, 8) := by kernel_rfl

set_option maxRecDepth 100000 in
theorem clone_any (w : World) (B : Nat) (ao : Option Addr) (n cp : Nat) (C : List Nat) (hn : C.length = n) (hlen : n ≤ 4096) (hB : B ≤ w.heap.size) (hb : RdU w B ao C) :
    Calls Try.prog 25 #[.slice ao n cp] w fun e w' => ∃ v, e = .returned v ∧ OwnU w.heap.size w' v C ∧ Below w.heap.size w w' := by
  have hlt : ∀ k, C.getD k 0 < 18446744073709551616 := fun k => by
    by_cases hk : k < C.length
    · obtain ⟨_, _, _, _, _, l⟩ := hb k hk; exact l
    · simp only [List.getD, List.getElem?_eq_none (Nat.le_of_not_lt hk)]; decide
  cases ao with
  | none =>
    have h0 : C = [] := by
      cases C with
      | nil => rfl
      | cons x C => obtain ⟨_, _, e, _⟩ := hb 0 (by simp); cases e
    subst h0
    have q : ∀ (w : World) (a : Option Addr) (n c n' c' : Nat), (binOp .eql 23 (.slice a n c) (.slice none n' c')).run Try.prog w = .ok (.bool a.isNone) w := fun w a n c n' c' => Lib.run_eql_slice_nil w _ 38 a n c n' c' (by kernel_rfl)
    go_enter Try.func25, Try.ntmps25
    go_wp2
    go_ret
    exact ⟨_, rfl, ⟨World.ownsRow_nil _ _ _ _, hlt⟩, Below.refl _ _⟩
  | some ad =>
    have hnews : ∀ j u, (uvl C)[j]? = some u → w.cell? (ad.add j) = some u := fun j u hj => by
      have hj' : j < C.length := by
        have := (List.getElem?_eq_some_iff.1 hj).1
        rwa [uvl_len] at this
      obtain ⟨b, off, e, _, hc, _⟩ := hb j hj'
      injection e with e
      subst e
      rw [Addr.add_lit, hc, ← hj]
      simp [uvl, List.getD, hj']
    have A := Lib.hid hnews
    have q : ∀ (w : World) (a : Option Addr) (n c n' c' : Nat), (binOp .eql 23 (.slice a n c) (.slice none n' c')).run Try.prog w = .ok (.bool a.isNone) w := fun w a n c n' c' => Lib.run_eql_slice_nil w _ 38 a n c n' c' (by kernel_rfl)
    clear hnews hb
    obtain ⟨i0, hi, hz0, hz1, hz2⟩ := info_parts Try.info38
    go_enter Try.func25, Try.ntmps25
    go_wp2_with (at_builtin; refine wpList_append_own _ rfl _ _ 23 rfl w.heap.size 38 i0 (.int .u64 0) 1 8 (by kernel_rfl) hi hz0 hz1 hz2 rfl (by decide) _ _ _ rfl (World.ownsRow_made w #[] 0 (Nat.le_refl _) (Nat.zero_le _) rfl) ad n cp (uvl C) rfl ?qc1 ?qc2 ?qc3 ?qc4 ?qc5 ?qc6 ?_)
    case qc1 => rw [uvl_len]; omega
    case qc2 =>
      intro j u hj
      exact Lib.cell?_alloc_some _ (A.out j u hj)
    case qc3 => intro u hu; obtain ⟨x, _, rfl⟩ := List.mem_map.1 hu; rfl
    case qc4 => unfold maxLen; omega
    case qc5 => omega
    case qc6 => simp
    intro v' w1 hown hgrow hnil
    go_wp2
    go_ret
    refine ⟨v', rfl, ⟨by simpa [hn] using hown, hlt⟩, ?_⟩
    exact ((Below.refl _ w).alloc (Nat.le_refl _) _).grown hgrow (by simp) (by intro k hk; simp [Value.ownBlock] at hk; omega)

end Go.Proofs.Ytlcgighhiacnpaa
