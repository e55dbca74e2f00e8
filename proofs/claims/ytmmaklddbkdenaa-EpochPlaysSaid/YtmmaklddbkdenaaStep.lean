/- The law's step: a call of both clocks, which answer alike; conditions: the two clocks are alike, their numbers bounded. -/
import Derived.Test.YtmmaklddbkdenaaBothPure
import Derived.Test.YtmmaklddbkdenaaAmong
import Derived.BigRegion
namespace Go.Proofs.Ytmmaklddbkdenaa
open Go.RowKit

def StepE (B : Nat) (w0 : World) (c bw r rw : Nat) (e : Ending) (w' : World) : Prop :=
  e = .returned (.bool true) ∧ ∃ tv rt rv k ts, Two B w0 w' c bw r rw tv rt rv k ts k ts ∧ k.Ok ∧ Pos k ∧ ts.length ≤ 4096

section
variable (B : Nat) (w0 w : World) (c bw r rw : Nat) (tv rt rv : Value) (k : Ck) (ts : List (Int × Int)) (H : Two B w0 w c bw r rw tv rt rv k ts k ts) (hk : k.Ok) (hp : Pos k) (hl : ts.length ≤ 4096) (kind n : Int)
include H hk hp hl

set_option maxRecDepth 100000 in
set_option maxHeartbeats 2000000 in
theorem step_0 (hm : kind % 5 = 0) : Calls Try.prog 19 #[.pointer (some ⟨c, 0, none⟩), .pointer (some ⟨r, 0, none⟩), .agg #[.int .i64 kind, .int .i64 n]] w (StepE B w0 c bw r rw) := by
  have H1 := H.alloc (.cells #[.int .i64 kind, .int .i64 n] 32)
  have hx := Blk.new w 32 #[.int .i64 kind, .int .i64 n]
  have d0 := hx.at 0 rfl
  have d1 := hx.at 1 rfl
  have hA := fun W => among_any kind 5 W (by omega) (by omega)
  simp only [hm] at hA
  have hE := enter_any _ c bw tv k H1.C hk n
  have hF := fun W h => renter_any W r rw rt rv k h hk n
  generalize enterN k n = y at hE hF
  generalize turnE k.ws n k.glob = z at hE hF
  have hg := hk.g1
  go_enter Try.func19, Try.ntmps19
  go_wp2_with (first | (go_at_call 10; refine (hA _).mono ?_; rintro e w1 ⟨rfl, rfl⟩) | (go_at_call 11; refine hE.mono ?_; rintro e w1 ⟨rfl, hC, hc1⟩; have H2 := H1.clk2 hC hc1 (by simp); have e1 := (H1.blk_clk hx rfl hc1 (by simp)).at 1 rfl) | (go_at_call 26; refine (hF _ H2.R).mono ?_; rintro e w2 ⟨rfl, hR, hc2⟩))
  go_ret
  have H3 := H2.ref2 hR hc2 (by simp)
  exact ⟨by simp, _, _, _, _, _, H3, turnK_ok hk _ _, hp.turn _ _ (by omega), hl⟩

set_option maxRecDepth 100000 in
set_option maxHeartbeats 2000000 in
theorem step_2 (hm : kind % 5 = 2) : Calls Try.prog 19 #[.pointer (some ⟨c, 0, none⟩), .pointer (some ⟨r, 0, none⟩), .agg #[.int .i64 kind, .int .i64 n]] w (StepE B w0 c bw r rw) := by
  have H1 := H.alloc (.cells #[.int .i64 kind, .int .i64 n] 32)
  have hx := Blk.new w 32 #[.int .i64 kind, .int .i64 n]
  have d0 := hx.at 0 rfl
  have hA := fun W => among_any kind 5 W (by omega) (by omega)
  simp only [hm] at hA
  have hE := advance_any _ c bw tv k H1.C hk
  have hF := fun W h => radvance_any W r rw rt rv k h hk
  generalize advOk k = y at hE hF
  generalize advE k = z at hE hF
  go_enter Try.func19, Try.ntmps19
  go_wp2_with (first | (go_at_call 10; refine (hA _).mono ?_; rintro e w1 ⟨rfl, rfl⟩) | (go_at_call 14; refine hE.mono ?_; rintro e w1 ⟨rfl, hC, hc1⟩; have H2 := H1.clk2 hC hc1 (by simp)) | (go_at_call 28; refine (hF _ H2.R).mono ?_; rintro e w2 ⟨rfl, hR, hc2⟩))
  go_ret
  have H3 := H2.ref2 hR hc2 (by simp)
  exact ⟨by simp, _, _, _, _, _, H3, adv_ok hk, hp.adv, hl⟩

set_option maxRecDepth 100000 in
set_option maxHeartbeats 2000000 in
theorem step_4 (hm : kind % 5 = 4) : Calls Try.prog 19 #[.pointer (some ⟨c, 0, none⟩), .pointer (some ⟨r, 0, none⟩), .agg #[.int .i64 kind, .int .i64 n]] w (StepE B w0 c bw r rw) := by
  have H1 := H.alloc (.cells #[.int .i64 kind, .int .i64 n] 32)
  have hx := Blk.new w 32 #[.int .i64 kind, .int .i64 n]
  have d0 := hx.at 0 rfl
  have hA := fun W => among_any kind 5 W (by omega) (by omega)
  simp only [hm] at hA
  have hE := free_any _ c bw tv k ts H1.C hk hl H1.T
  have hF := fun W h h2 => rfreeAll_any W r rw rt rv k ts h hk h2 hl
  have t1 := toldT_le k ts
  have t2 := keepT_le k ts
  have z1 := H1.size
  go_enter Try.func19, Try.ntmps19
  go_wp2_with (first | (go_at_call 10; refine (hA _).mono ?_; rintro e w1 ⟨rfl, rfl⟩) | (go_at_call 17; refine hE.mono ?_; rintro e w1 ⟨tv', ov, rfl, hC, hT, ho, hO, hc1⟩; have H2 := H1.clk hC hT hc1 mem_ct (.inl ho); have z2 := hc1.size) | (go_at_call 31; refine (hF _ H2.R H2.S).mono ?_; rintro e w2 ⟨rt', rv', ov', rfl, hR, hS, hO', hc2, b1, b2, b3⟩; have H3 := H2.ref hR hS hc2 (by simp) (fun g hg => .inr (b1 g hg)) (fun g hg => .inr (b2 g hg)); have o1 := own_chg hO hc2 (fun g hg hm => own_ne hO H2.R.1 (by decide) (by simp only [List.mem_singleton] at hm; rw [hg, hm]))) | (go_at_call 30; refine (sameInts_any _ ov ov' (toldT k ts) _ _ o1 hO' (by omega)).mono ?_; rintro e w3 ⟨rfl, b4⟩; have o2 := own_chg o1 (Chg.of_below b4 []) (fun _ _ => by simp)) | (go_at_call 32; refine (spoilInts_any _ ov (toldT k ts) _ o2 (-7)).mono ?_; rintro e w4 ⟨rfl, hc4⟩))
  go_ret
  have zz := b4.size
  have H4 := H3.far (Chg.of_below b4 []) (by simp) (by simp) (by simp) (by simp) (fun _ _ => by simp) (fun _ _ => by simp) (fun _ _ => by simp) (by simp)
  have lo : ∀ q ∈ ov.ownBlock.toList, w.heap.size + 1 ≤ q ∧ q < w1.heap.size := fun q hq => by
    have := hO.lt q (by simpa using hq)
    simpa using this
  have q1 := H.C.1.lt
  have q2 := H.C.2.lt
  have q3 := H.R.1.lt
  have q4 := H.R.2.lt
  have H5 := H4.far hc4 (fun hm => by have := lo _ hm; omega) (fun hm => by have := lo _ hm; omega) (fun hm => by have := lo _ hm; omega) (fun hm => by have := lo _ hm; omega)
    (fun g hg hm => by have := lo _ hm; have := (H.T.lt g (ho ▸ hg)).2; omega) (fun g hg hm => by have := lo _ hm; have := b1 g hg; omega) (fun g hg hm => by have := lo _ hm; have := b2 g hg; omega)
    (fun q hm => by have := lo _ hm; have := H.size; omega)
  exact ⟨rfl, _, _, _, _, _, H5, hk, hp, by omega⟩

end

end Go.Proofs.Ytmmaklddbkdenaa
