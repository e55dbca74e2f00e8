/- The law's step: Leave and Retire, of both clocks in either order; conditions: the two clocks are alike, their numbers bounded. -/
import Derived.Test.YtmmaklddbkdenaaStep
namespace Go.Proofs.Ytmmaklddbkdenaa
open Go.RowKit

section
variable (B : Nat) (w0 w : World) (c bw r rw : Nat) (tv rt rv : Value) (k : Ck) (ts : List (Int × Int)) (H : Two B w0 w c bw r rw tv rt rv k ts k ts) (hk : k.Ok) (hp : Pos k) (hl : ts.length ≤ 4096) (kind n : Int)
include H hk hp hl

set_option maxRecDepth 100000 in
set_option maxHeartbeats 4000000 in
theorem step_1 (hm : kind % 5 = 1) : Calls Try.prog 19 #[.pointer (some ⟨c, 0, none⟩), .pointer (some ⟨r, 0, none⟩), .agg #[.int .i64 kind, .int .i64 n]] w (StepE B w0 c bw r rw) := by
  have H1 := H.alloc (.cells #[.int .i64 kind, .int .i64 n] 32)
  have hx := Blk.new w 32 #[.int .i64 kind, .int .i64 n]
  have d0 := hx.at 0 rfl
  have d1 := hx.at 1 rfl
  have hA := fun W => among_any kind 5 W (by omega) (by omega)
  simp only [hm] at hA
  have hE := fun W h => leave_any W c bw tv k h hk n
  have hF := fun W h => rleave_any W r rw rt rv k h hk hp n
  generalize turnE k.ws n 0 = z at hE hF
  go_enter Try.func19, Try.ntmps19
  go_upto_region 7 with (first | (go_at_call 10; refine (hA _).mono ?_; rintro e w1 ⟨rfl, rfl⟩))
  go_region_with (first
    | (go_at_call 12; refine (hE _ H1.drew.C).mono ?_; rintro e w1 ⟨rfl, hC, hc1⟩; have H2 := H1.drew.clk2 hC hc1 (by simp); have e1 := (H1.drew.blk_clk hx rfl hc1 (by simp)).at 1 rfl)
    | (go_at_call 27; refine (hF _ H2.R).mono ?_; rintro e w2 ⟨rfl, hR, hc2⟩; have H3 := H2.ref2 hR hc2 (by simp))
    | (go_at_call 27; refine (hF _ H1.drew.R).mono ?_; rintro e w1 ⟨rfl, hR, hc1⟩; have H4 := H1.drew.ref2 hR hc1 (by simp); have e1 := (H1.drew.blk_ref hx rfl hc1 (by simp)).at 1 rfl)
    | (go_at_call 12; refine (hE _ H4.C).mono ?_; rintro e w2 ⟨rfl, hC, hc2⟩; have H3 := H4.clk2 hC hc2 (by simp)))
  all_goals go_wp2
  all_goals go_ret
  all_goals exact ⟨rfl, _, _, _, _, _, H3, turnK_ok hk _ _, hp.turn _ _ (by omega), hl⟩

set_option maxRecDepth 100000 in
set_option maxHeartbeats 4000000 in
theorem step_3 (hm : kind % 5 = 3) : Calls Try.prog 19 #[.pointer (some ⟨c, 0, none⟩), .pointer (some ⟨r, 0, none⟩), .agg #[.int .i64 kind, .int .i64 n]] w (StepE B w0 c bw r rw) := by
  have H1 := H.alloc (.cells #[.int .i64 kind, .int .i64 n] 32)
  have hx := Blk.new w 32 #[.int .i64 kind, .int .i64 n]
  have d0 := hx.at 0 rfl
  have d1 := hx.at 1 rfl
  have hA := fun W => among_any kind 5 W (by omega) (by omega)
  simp only [hm] at hA
  have hE := fun W h h2 => retire_any W c bw tv k ts h h2 hl n
  have hF := fun W h h2 => rretire_any W r rw rt rv k ts h h2 hl n
  have hrl := retT_len hl (n, k.glob)
  generalize retE ts = z at hE hF
  go_enter Try.func19, Try.ntmps19
  go_upto_region 13 with (first | (go_at_call 10; refine (hA _).mono ?_; rintro e w1 ⟨rfl, rfl⟩))
  go_region_with (first
    | (go_at_call 16; refine (hE _ H1.drew.C H1.drew.T).mono ?_; rintro e w1 ⟨rfl, tv', hC, hT, hc1, hm1⟩; have H2 := H1.drew.clk hC hT hc1 mem_ct hm1; have e1 := (H1.drew.blk_clk hx rfl hc1 mem_ct).at 1 rfl)
    | (go_at_call 29; refine (hF _ H2.R H2.S).mono ?_; rintro e w2 ⟨rfl, rt', rv', hR, hS, hc2, hm2, hm3⟩; have H3 := H2.ref hR hS hc2 mem_rt hm2.mov hm3.mov)
    | (go_at_call 29; refine (hF _ H1.drew.R H1.drew.S).mono ?_; rintro e w1 ⟨rfl, rt', rv', hR, hS, hc1, hm1, hm2⟩; have H4 := H1.drew.ref hR hS hc1 mem_rt hm1.mov hm2.mov; have e1 := (H1.drew.blk_ref hx rfl hc1 mem_rt).at 1 rfl)
    | (go_at_call 16; refine (hE _ H4.C H4.T).mono ?_; rintro e w2 ⟨rfl, tv', hC, hT, hc2, hm3⟩; have H3 := H4.clk hC hT hc2 mem_ct hm3))
  all_goals go_wp2
  all_goals go_ret
  all_goals exact ⟨rfl, _, _, _, _, _, H3, hk, hp, hrl⟩

theorem step_any : Calls Try.prog 19 #[.pointer (some ⟨c, 0, none⟩), .pointer (some ⟨r, 0, none⟩), .agg #[.int .i64 kind, .int .i64 n]] w (StepE B w0 c bw r rw) := by
  have h5 : kind % 5 = 0 ∨ kind % 5 = 1 ∨ kind % 5 = 2 ∨ kind % 5 = 3 ∨ kind % 5 = 4 := by omega
  rcases h5 with h | h | h | h | h
  · exact step_0 B w0 w c bw r rw tv rt rv k ts H hk hp hl kind n h
  · exact step_1 B w0 w c bw r rw tv rt rv k ts H hk hp hl kind n h
  · exact step_2 B w0 w c bw r rw tv rt rv k ts H hk hp hl kind n h
  · exact step_3 B w0 w c bw r rw tv rt rv k ts H hk hp hl kind n h
  · exact step_4 B w0 w c bw r rw tv rt rv k ts H hk hp hl kind n h

end

end Go.Proofs.Ytmmaklddbkdenaa
