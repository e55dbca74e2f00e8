/- works and the closures of Advance, New, Advance, each by its contract; conditions: bounds on the clock's numbers. -/
import Derived.Test.YtmmaklddbkdenaaCkMem
import Derived.Deep.QuietTactic
import Derived.BigQuiet
namespace Go.Proofs.Ytmmaklddbkdenaa
open Go.RowKit

/-- A number that p tells of: hidden from the walk. -/
def SomeIdx (b : Bool) (w : World) (e : Ending) (w' : World) : Prop := ∃ r : Int, e = .returned (.int .i64 r) ∧ decide (0 ≤ r) = b ∧ w = w'

/-- slices.IndexFunc over ints, by a function that only reads. -/
theorem indexFunc_any (w : World) (b n : Nat) (xs : List Int) (p : Int → Bool) (F : Nat) (cap : Value) (hn : n = xs.length) (hlen : xs.length ≤ 1000000) (hb : Blk w b 3 (xs.map (Value.int .i64)).toArray)
    (hcf : ∀ (args : Array Value) (W : World), (callFunc F args).run Try.prog W = .ok (.enter F args) W) (hF : ∀ x : Int, Calls Try.prog F #[.int .i64 x, cap] w fun e w' => e = .returned (.bool (p x)) ∧ w = w') :
    Calls Try.prog 37 #[.slice (some ⟨b, 0, none⟩) n n, .func (.func F) #[] #[cap]] w (SomeIdx (xs.any p) w) := by
  subst hn
  have HF := Lib.hid hF
  have HB := Lib.hid hb
  clear hF hb
  go_enter Try.func37, Try.ntmps37
  go_wp2
  go_loop [8] (fun i => ∃ k : Nat, k ≤ xs.length ∧ i = .int .i64 k ∧ (xs.take k).any p = false) (fun i => xs.length - (intOf i).toNat)
  case atStart => exact ⟨0, Nat.zero_le _, rfl, rfl⟩
  case round =>
    obtain ⟨k, hk, rfl, hx⟩ := hrel
    have HX := Lib.hid hx
    clear hx
    by_cases hlt : k < xs.length
    · have ck := HB.out.at k (getElem?_map_int xs k hlt)
      have hg : xs.getD k 0 = xs[k] := by simp [List.getD, hlt]
      have hF := HF.out xs[k]
      rw [hg] at ck
      clear hg
      have htk : (xs.take (k + 1)).any p = ((xs.take k).any p || p xs[k]) := by
        rw [List.take_succ_eq_append_getElem hlt, List.any_append]; simp
      cases hp : p xs[k] with
      | true =>
        rw [hp] at hF
        have hany : xs.any p = true := List.any_eq_true.2 ⟨xs[k], List.getElem_mem hlt, hp⟩
        clear hp htk HX
        go_wp2_with (refine hF.mono ?_; rintro e w' ⟨rfl, rfl⟩)
        go_ret
        exact ⟨k, rfl, by rw [hany]; simp, rfl⟩
      | false =>
        rw [hp] at hF
        rw [HX.out, hp] at htk
        have HT := Lib.hid htk
        clear hp htk HX
        go_wp2_with (refine hF.mono ?_; rintro e w' ⟨rfl, rfl⟩)
        go_round
        case rel => exact ⟨k + 1, by omega, by go_num, HT.out⟩
        case measure => simp [intOf]; omega
    · have hany : xs.any p = false := by
        have h := HX.out
        rwa [List.take_of_length_le (by omega)] at h
      clear HX
      go_wp2
      go_ret
      exact ⟨-1, rfl, by simp, rfl⟩

theorem containsFunc_any (w : World) (b n : Nat) (xs : List Int) (p : Int → Bool) (F : Nat) (cap : Value) (hn : n = xs.length) (hlen : xs.length ≤ 1000000) (hb : Blk w b 3 (xs.map (Value.int .i64)).toArray)
    (hcf : ∀ (args : Array Value) (W : World), (callFunc F args).run Try.prog W = .ok (.enter F args) W) (hF : ∀ x : Int, Calls Try.prog F #[.int .i64 x, cap] w fun e w' => e = .returned (.bool (p x)) ∧ w = w') :
    Calls Try.prog 33 #[.slice (some ⟨b, 0, none⟩) n n, .func (.func F) #[] #[cap]] w fun e w' => e = .returned (.bool (xs.any p)) ∧ w = w' := by
  have hI := indexFunc_any w b n xs p F cap hn hlen hb hcf hF
  clear hF hb hn hlen hcf
  obtain ⟨B, hB⟩ : ∃ B, xs.any p = B := ⟨_, rfl⟩
  rw [hB] at hI ⊢
  clear hB
  go_enter Try.func33, Try.ntmps33
  go_wp2_with (go_at_call 37; refine hI.mono ?_; rintro e w' ⟨r, rfl, hr, rfl⟩; subst hr)
  go_ret
  exact ⟨rfl, rfl⟩

theorem call34 : ∀ (args : Array Value) (W : World), (callFunc 34 args).run Try.prog W = .ok (.enter 34 args) W := fun _ _ => by kernel_rfl
theorem call22 : ∀ (args : Array Value) (W : World), (callFunc 22 args).run Try.prog W = .ok (.enter 22 args) W := fun _ _ => by kernel_rfl
theorem call25 : ∀ (args : Array Value) (W : World), (callFunc 25 args).run Try.prog W = .ok (.enter 25 args) W := fun _ _ => by kernel_rfl

theorem works1_any (w : World) (bx : Nat) (x : Int) (p : Int → Bool) (F : Nat) (cap : Value) (hcf : ∀ (args : Array Value) (W : World), (callFunc F args).run Try.prog W = .ok (.enter F args) W)
    (hb : Blk w bx 43 #[.func (.func F) #[] #[cap]]) (hF : Calls Try.prog F #[.int .i64 x, cap] w fun e w' => e = .returned (.bool (p x)) ∧ w = w') :
    Calls Try.prog 34 #[.int .i64 x, .pointer (some ⟨bx, 0, none⟩)] w fun e w' => e = .returned (.bool (decide (0 < x) && p x)) ∧ w = w' := by
  have c0 := hb.at 0 rfl
  clear hb
  by_cases h0 : 0 < x
  · rw [decide_eq_true h0, Bool.true_and]
    generalize p x = B at hF ⊢
    go_enter Try.func34, Try.ntmps34
    go_wp2_with (refine hF.mono ?_; rintro e w' ⟨rfl, rfl⟩)
    go_ret
    exact ⟨rfl, rfl⟩
  · rw [decide_eq_false h0, Bool.false_and]
    clear hF
    go_enter Try.func34, Try.ntmps34
    go_wp2
    go_ret
    exact ⟨rfl, rfl⟩

theorem works_any (w : World) (c bw : Nat) (tv : Value) (k : Ck) (h : IsClock w c bw tv k) (hk : k.Ok) (p : Int → Bool) (F : Nat) (cap : Value)
    (hcf : ∀ (args : Array Value) (W : World), (callFunc F args).run Try.prog W = .ok (.enter F args) W)
    (hF : ∀ x : Int, Calls Try.prog F #[.int .i64 x, cap] (w.alloc (.cells #[.func (.func F) #[] #[cap]] 43)) fun e w' => e = .returned (.bool (p x)) ∧ w.alloc (.cells #[.func (.func F) #[] #[cap]] 43) = w') :
    Calls Try.prog 21 #[.pointer (some ⟨c, 0, none⟩), .func (.func F) #[] #[cap]] w fun e w' => e = .returned (.bool (worksP k.ws p)) ∧ w.alloc (.cells #[.func (.func F) #[] #[cap]] 43) = w' := by
  have c0 := h.1.at 0 rfl
  have hl := hk.len
  have hlt := h.1.lt
  have hC := containsFunc_any (w.alloc (.cells #[.func (.func F) #[] #[cap]] 43)) bw k.ws.length k.ws (fun n => decide (0 < n) && p n) 34 (.pointer (some ⟨w.heap.size, 0, none⟩)) rfl (by omega) (h.2.alloc _) call34
    (fun x => works1_any _ w.heap.size x p F cap hcf (Blk.new _ _ _) (hF x))
  have e : (k.ws.any fun n => decide (0 < n) && p n) = worksP k.ws p := rfl
  rw [e] at hC
  generalize worksP k.ws p = B at hC ⊢
  clear hF e h
  go_enter Try.func21, Try.ntmps21
  go_wp2_with (go_at_call 33; refine hC.mono ?_; rintro e w' ⟨rfl, rfl⟩)
  go_ret
  exact ⟨rfl, rfl⟩

/-- The closure of Advance: is a worker's epoch below the global one? -/
theorem adv1_any (w : World) (bc c bw : Nat) (tv : Value) (k : Ck) (hb : Blk w bc 26 #[.pointer (some ⟨c, 0, none⟩)]) (h : IsClock w c bw tv k) (x : Int) :
    Calls Try.prog 22 #[.int .i64 x, .pointer (some ⟨bc, 0, none⟩)] w fun e w' => e = .returned (.bool (decide (x < k.glob))) ∧ w = w' := by
  have c0 := hb.at 0 rfl
  have c2 := h.1.at 2 rfl
  clear h hb
  go_enter Try.func22, Try.ntmps22
  go_wp2
  go_ret
  exact ⟨rfl, rfl⟩

end Go.Proofs.Ytmmaklddbkdenaa
