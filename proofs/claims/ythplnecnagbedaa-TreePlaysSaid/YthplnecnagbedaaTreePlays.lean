/- The law TreePlays by its walk: both trees call by call, and all calls; conditions: the acts read. -/
import Derived.Test.YthplnecnagbedaaTrRefs
import Derived.Test.YthplnecnagbedaaTrPair
import Derived.Test.YthplnecnagbedaaTrWorks2
import Derived.Deep.RegionWith
namespace Go.Proofs.Ythplnecnagbedaa
open Go.RowKit

/-- The two trees hold the same. -/
structure Two (B : Nat) (w : World) (M : TrM) (T : Tr) (n rb kc vc : Nat) (ka va : Option Addr) : Prop where
  ts : TS B w M T n
  rt : RT B w rb (entsT T) ka kc va vc
section
variable {B n rb kc vc : Nat} {ka va : Option Addr} {w w' : World} {M : TrM} {T : Tr}
theorem RT.fr {M' : TrM} {E : List Ent} (h : RT B w rb E ka kc va vc) (hT : TS B w M T n) (hf : TrFr w M M' w') : RT B w' rb E ka kc va vc :=
  h.chg hf.chg (hT.tree.far h.top (by unfold NoTr; decide)) (fun q hq => hT.tree.ownFar h.keys (by unfold NoTr; decide) q hq) (fun q hq => hT.tree.ownFar h.vals (by unfold NoTr; decide) q hq)
theorem RT.rtF_ge {E : List Ent} (h : RT B w rb E ka kc va vc) : ∀ q ∈ rtF rb E.length kc vc ka va, B ≤ q := fun q hq => by
  simp only [rtF, List.mem_cons, List.mem_append, Option.mem_toList] at hq
  rcases hq with rfl | hq | hq
  · exact h.ge
  · exact below_own h.keys q hq
  · exact below_own h.vals q hq
theorem RT.rtF_far {E : List Ent} (h : RT B w rb E ka kc va vc) (hT : TS B w M T n) : ∀ q ∈ M.F, q ∉ rtF rb E.length kc vc ka va := fun q hq hm => by
  simp only [rtF, List.mem_cons, List.mem_append, Option.mem_toList] at hm
  rcases hm with rfl | hm | hm
  · exact hT.tree.far h.top (by unfold NoTr; decide) hq
  · exact hT.tree.ownFar h.keys (by unfold NoTr; decide) q hm hq
  · exact hT.tree.ownFar h.vals (by unfold NoTr; decide) q hm hq
theorem Two.next (h : Two B w M T n rb kc vc ka va) (hb : Below w.heap.size w w') : Two B w' M T n rb kc vc ka va := ⟨h.ts.below hb, h.rt.next hb⟩
theorem Two.alloc (h : Two B w M T n rb kc vc ka va) (o : Obj) : Two B (w.alloc o) M T n rb kc vc ka va := h.next ((Below.refl _ w).alloc (Nat.le_refl _) o)
end
/-- Behind a step. -/
def StepP (B : Nat) (w : World) (M : TrM) (n rb : Nat) (e : Ending) (w' : World) : Prop :=
  e = .returned (.bool true) ∧ ∃ M' T' ka kc va vc, M'.tb = M.tb ∧ Two B w' M' T' (n + 1) rb kc vc ka va ∧ Below B w w'
/-- The act's box. -/
def boxT (x : ActT) : Array Value := #[.int .i64 x.kind, .string x.key, .string x.to_, .int .i64 x.val]

set_option maxRecDepth 100000 in
set_option maxHeartbeats 4000000 in
theorem step_put (w : World) (B n rb kc vc : Nat) (ka va : Option Addr) (M : TrM) (T : Tr) (h : Two B w M T n rb kc vc ka va) (hn : n ≤ 9000) (x : ActT) (hx : x.kind % 4 = 0) :
    Calls Try.prog 52 #[.pointer (some ⟨M.tb, 0, none⟩), .pointer (some ⟨rb, 0, none⟩), .agg (boxT x)] w (StepP B w M n rb) := by
  obtain ⟨kd, k, tk, v⟩ := x
  dsimp only at hx
  unfold boxT
  dsimp only
  have ham := fun W => amongT kd 4 W (by omega) (by omega)
  rw [hx] at ham
  have h1 := h.alloc (.cells #[.int .i64 kd, .string k, .string tk, .int .i64 v] 69)
  have hbx : Blk (w.alloc (.cells #[.int .i64 kd, .string k, .string tk, .int .i64 v] 69)) w.heap.size 69 #[.int .i64 kd, .string k, .string tk, .int .i64 v] := Blk.new w 69 _
  have hput := put_ts h1.ts (by omega) k v
  have hge : B ≤ w.heap.size := by
    have := h.rt.ge
    have := h.rt.top.lt
    omega
  have H1 := Lib.hid h1
  have HBX := Lib.hid hbx
  have HG := Lib.hid hge
  obtain ⟨tb, htb⟩ : ∃ tb, tb = M.tb := ⟨_, rfl⟩
  have HTB := Lib.hid htb
  rw [← htb] at hput ⊢
  clear h h1 hbx htb hge
  go_enter Try.func52, Try.ntmps52
  go_upto_region 4 with (first
    | (go_at_call 43; refine hput.mono ?_; rintro e w2 ⟨T', M', r0, r1, r2, hP, rfl, hS2, hF2⟩)
    | (go_at_call 42; refine (ham _).mono ?_; rintro e w1 ⟨rfl, rfl⟩))
  have hR2 := H1.out.rt.fr H1.out.ts hF2
  have hb2 := hF2.blk H1.out.ts HBX.out (by unfold NoTr; decide)
  have hq : putSpec (entsT T) k v = (entsT T', r0, r1, r2) := by
    have e1 := hP.ents
    have e2 := hP.res
    rw [e1]
    exact Prod.ext rfl (by rw [← e2])
  have hT2 : entsT T' = (putSpec (entsT T) k v).1 := hP.ents
  have hrp := tput_any w2 B rb kc vc ka va (entsT T) H1.out.ts.ok.sorted H1.out.ts.few hR2 k v hq
  have c1 : w2.cell? ⟨w.heap.size, 1, none⟩ = some (.string k) := hb2.at 1 rfl
  have c3 : w2.cell? ⟨w.heap.size, 3, none⟩ = some (.int .i64 v) := hb2.at 3 rfl
  have bel2 := hF2.bel H1.out.ts
  have HF2 := Lib.hid hF2
  have HS2 := Lib.hid hS2
  have HR2 := Lib.hid hR2
  have HB2 := Lib.hid bel2
  clear hP hF2 hS2 hR2 hb2 hq hT2 bel2 hput
  go_wp2_with (go_at_call 69; refine hrp.mono ?_; rintro e w3 ⟨rfl, ka', kc', va', vc', hR3, hC3⟩)
  have hS3 := HS2.out.chg hC3 (HR2.out.rtF_far HS2.out)
  have hb3 : Below B w2 w3 := hC3.below (by have h1 := HB2.out.size; have h2 := HG.out; simp only [World.size_alloc] at h1; omega) HR2.out.rtF_ge
  have hb : Below B w w3 := (((Below.refl _ w).alloc (Nat.le_refl _) _).mono HG.out).trans (HB2.out.trans hb3)
  have HS3 := Lib.hid hS3
  have HR3 := Lib.hid hR3
  have HB := Lib.hid hb
  clear hS3 hb3 hb hR3 hC3
  go_ret
  exact ⟨rfl, _, _, _, _, _, _, HF2.out.tb, ⟨HS3.out, HR3.out⟩, HB.out⟩

set_option maxRecDepth 100000 in
set_option maxHeartbeats 4000000 in
theorem step_take (w : World) (B n rb kc vc : Nat) (ka va : Option Addr) (M : TrM) (T : Tr) (h : Two B w M T n rb kc vc ka va) (hn : n ≤ 9000) (x : ActT) (hx : x.kind % 4 = 2) :
    Calls Try.prog 52 #[.pointer (some ⟨M.tb, 0, none⟩), .pointer (some ⟨rb, 0, none⟩), .agg (boxT x)] w (StepP B w M n rb) := by
  obtain ⟨kd, k, tk, v⟩ := x
  dsimp only at hx
  unfold boxT
  dsimp only
  have ham := fun W => amongT kd 4 W (by omega) (by omega)
  rw [hx] at ham
  have h1 := h.alloc (.cells #[.int .i64 kd, .string k, .string tk, .int .i64 v] 69)
  have hbx : Blk (w.alloc (.cells #[.int .i64 kd, .string k, .string tk, .int .i64 v] 69)) w.heap.size 69 #[.int .i64 kd, .string k, .string tk, .int .i64 v] := Blk.new w 69 _
  have hput := take_ts h1.ts (by omega) k
  have hge : B ≤ w.heap.size := by
    have := h.rt.ge
    have := h.rt.top.lt
    omega
  have H1 := Lib.hid h1
  have HBX := Lib.hid hbx
  have HG := Lib.hid hge
  obtain ⟨tb, htb⟩ : ∃ tb, tb = M.tb := ⟨_, rfl⟩
  have HTB := Lib.hid htb
  rw [← htb] at hput ⊢
  clear h h1 hbx htb hge
  go_enter Try.func52, Try.ntmps52
  go_upto_region 12 with (first
    | (go_at_call 46; refine hput.mono ?_; rintro e w2 ⟨T', M', r0, r1, hP, rfl, hS2, hF2⟩)
    | (go_at_call 42; refine (ham _).mono ?_; rintro e w1 ⟨rfl, rfl⟩))
  have hR2 := H1.out.rt.fr H1.out.ts hF2
  have hb2 := hF2.blk H1.out.ts HBX.out (by unfold NoTr; decide)
  have hq : takeSpec (entsT T) k = (entsT T', r0, r1) := by
    have e1 := hP.ents
    have e2 := hP.res
    rw [e1]
    exact Prod.ext rfl (by rw [← e2])
  have hT2 : entsT T' = (takeSpec (entsT T) k).1 := hP.ents
  have hrp := ttake_any w2 B rb kc vc ka va (entsT T) H1.out.ts.ok.sorted H1.out.ts.few hR2 k hq
  have c1 : w2.cell? ⟨w.heap.size, 1, none⟩ = some (.string k) := hb2.at 1 rfl
  have c3 : w2.cell? ⟨w.heap.size, 3, none⟩ = some (.int .i64 v) := hb2.at 3 rfl
  have bel2 := hF2.bel H1.out.ts
  have HF2 := Lib.hid hF2
  have HS2 := Lib.hid hS2
  have HR2 := Lib.hid hR2
  have HB2 := Lib.hid bel2
  clear hP hF2 hS2 hR2 hb2 hq hT2 bel2 hput
  go_wp2_with (go_at_call 71; refine hrp.mono ?_; rintro e w3 ⟨rfl, ka', kc', va', vc', hR3, hC3⟩)
  have hS3 := HS2.out.chg hC3 (HR2.out.rtF_far HS2.out)
  have hb3 : Below B w2 w3 := hC3.below (by have h1 := HB2.out.size; have h2 := HG.out; simp only [World.size_alloc] at h1; omega) HR2.out.rtF_ge
  have hb : Below B w w3 := (((Below.refl _ w).alloc (Nat.le_refl _) _).mono HG.out).trans (HB2.out.trans hb3)
  have HS3 := Lib.hid hS3
  have HR3 := Lib.hid hR3
  have HB := Lib.hid hb
  clear hS3 hb3 hb hR3 hC3
  go_ret
  exact ⟨rfl, _, _, _, _, _, _, HF2.out.tb, ⟨HS3.out, HR3.out⟩, HB.out⟩

set_option maxRecDepth 100000 in
set_option maxHeartbeats 4000000 in
theorem step_get (w : World) (B n rb kc vc : Nat) (ka va : Option Addr) (M : TrM) (T : Tr) (h : Two B w M T n rb kc vc ka va) (hn : n ≤ 9000) (x : ActT) (hx : x.kind % 4 = 1) :
    Calls Try.prog 52 #[.pointer (some ⟨M.tb, 0, none⟩), .pointer (some ⟨rb, 0, none⟩), .agg (boxT x)] w (StepP B w M n rb) := by
  obtain ⟨kd, k, tk, v⟩ := x
  dsimp only at hx
  unfold boxT
  dsimp only
  have ham := fun W => amongT kd 4 W (by omega) (by omega)
  rw [hx] at ham
  have h1 := h.alloc (.cells #[.int .i64 kd, .string k, .string tk, .int .i64 v] 69)
  have hbx : Blk (w.alloc (.cells #[.int .i64 kd, .string k, .string tk, .int .i64 v] 69)) w.heap.size 69 #[.int .i64 kd, .string k, .string tk, .int .i64 v] := Blk.new w 69 _
  obtain ⟨T1, lf, T2, ha, _⟩ := findT_at h.ts.ok k
  have hget := get_ts h1.ts (by omega) k ha
  have hge : B ≤ w.heap.size := by
    have := h.rt.ge
    have := h.rt.top.lt
    omega
  have hb0 : Below B w (w.alloc (.cells #[.int .i64 kd, .string k, .string tk, .int .i64 v] 69)) := ((Below.refl _ w).alloc (Nat.le_refl _) _).mono hge
  have hz : (w.alloc (.cells #[.int .i64 kd, .string k, .string tk, .int .i64 v] 69)).heap.size = w.heap.size + 1 := by simp
  have H1 := Lib.hid h1
  have HBX := Lib.hid hbx
  have HG := Lib.hid hge
  have HB0 := Lib.hid hb0
  have HA := Lib.hid ha
  obtain ⟨tb, htb⟩ : ∃ tb, tb = M.tb := ⟨_, rfl⟩
  have HTB := Lib.hid htb
  rw [← htb] at hget ⊢
  clear h h1 hbx htb hge ha hb0
  unfold GetS at hget
  obtain ⟨u, th, hgs⟩ : ∃ u th, getSpec (entsT T) k = (u, th) := ⟨_, _, rfl⟩
  rw [hgs] at hget
  dsimp only at hget
  have HGS := Lib.hid hgs
  clear hgs
  go_enter Try.func52, Try.ntmps52
  go_upto_region 8 with (first
    | (go_at_call 51; refine hget.mono ?_; rintro e w2 ⟨g, hg1, rfl, hg2, b2⟩)
    | (go_at_call 42; refine (ham _).mono ?_; rintro e w1 ⟨rfl, rfl⟩))
  have h2 := H1.out.next b2
  have hb2 := HBX.out.below b2 HBX.out.lt
  have c1 : w2.cell? ⟨w.heap.size, 1, none⟩ = some (.string k) := hb2.at 1 rfl
  have hrg := tget_any w2 B rb kc vc ka va (entsT T) h2.ts.ok.sorted h2.ts.few h2.rt k
  rw [HGS.out] at hrg
  dsimp only at hrg
  have hval := fun q => valid_ts (h2.ts.drewN q) (by omega) (some ⟨g, 0, none⟩) 1 1 [seenL lf] rfl (by omega) (rd3_one (hg2.drewN q)) (by simp; exact ⟨lf, HA.out.mem, rfl⟩)
  have hv1 : validM T [seenL lf] = true := validM_mem.2 fun s hs => ⟨lf, HA.out.mem, by simp at hs; exact hs.symm⟩
  rw [hv1, ← HTB.out] at hval
  have H2 := Lib.hid h2
  have HB2 := Lib.hid (HB0.out.trans (b2.mono (by rw [hz]; have := HG.out; omega)))
  clear h2 hb2 hg2 b2 hget hv1
  go_wp2_with (first
    | (go_at_call 49; refine (hval q).mono ?_; rintro e w4 ⟨rfl, b4⟩)
    | (go_at_call 70; refine hrg.mono ?_; rintro e w3 ⟨rfl, q, rfl⟩))
  have H4 := Lib.hid ((H2.out.next ((Below.refl _ w2).trans (below_drewN (Below.refl _ w2) q))).next b4)
  have HB4 := Lib.hid ((below_drewN HB2.out q).trans (b4.mono (by have h1 := HB2.out.size; have h2 := HG.out; simp; omega)))
  clear b4
  go_ret
  exact ⟨rfl, M, T, ka, kc, va, vc, rfl, ⟨H4.out.ts.mono (by omega), H4.out.rt⟩, HB4.out⟩

set_option maxRecDepth 100000 in
set_option maxHeartbeats 4000000 in
theorem step_bad (w : World) (B n rb kc vc : Nat) (ka va : Option Addr) (M : TrM) (T : Tr) (h : Two B w M T n rb kc vc ka va) (_hn : n ≤ 9000) (x : ActT) (hx : x.kind % 4 = 3) (hm : x.val < 1 ∨ 4096 < x.val) :
    Calls Try.prog 52 #[.pointer (some ⟨M.tb, 0, none⟩), .pointer (some ⟨rb, 0, none⟩), .agg (boxT x)] w (StepP B w M n rb) := by
  obtain ⟨kd, k, tk, v⟩ := x
  dsimp only at hx hm
  unfold boxT
  dsimp only
  have ham := fun W => amongT kd 4 W (by omega) (by omega)
  rw [hx] at ham
  have h1 := h.alloc (.cells #[.int .i64 kd, .string k, .string tk, .int .i64 v] 69)
  have hbx : Blk (w.alloc (.cells #[.int .i64 kd, .string k, .string tk, .int .i64 v] 69)) w.heap.size 69 #[.int .i64 kd, .string k, .string tk, .int .i64 v] := Blk.new w 69 _
  have hsc := scan_bad (w.alloc (.cells #[.int .i64 kd, .string k, .string tk, .int .i64 v] 69)) M.tb k tk v hm
  have hge : B ≤ w.heap.size := by
    have := h.rt.ge
    have := h.rt.top.lt
    omega
  have hb0 : Below B w (w.alloc (.cells #[.int .i64 kd, .string k, .string tk, .int .i64 v] 69)) := ((Below.refl _ w).alloc (Nat.le_refl _) _).mono hge
  have hz : (w.alloc (.cells #[.int .i64 kd, .string k, .string tk, .int .i64 v] 69)).heap.size = w.heap.size + 1 := by simp
  have H1 := Lib.hid h1
  have HBX := Lib.hid hbx
  have HG := Lib.hid hge
  have HB0 := Lib.hid hb0
  obtain ⟨tb, htb⟩ : ∃ tb, tb = M.tb := ⟨_, rfl⟩
  have HTB := Lib.hid htb
  rw [← htb] at hsc ⊢
  clear h h1 hbx htb hge hb0
  have hsx : scanC (entsT T) k tk v = ([], 1) := by unfold scanC; rw [if_pos hm]
  go_enter Try.func52, Try.ntmps52
  go_upto_region 15 with (first
    | (go_at_call 47; refine hsc.mono ?_; rintro e w2 ⟨rfl, b2⟩)
    | (go_at_call 42; refine (ham _).mono ?_; rintro e w1 ⟨rfl, rfl⟩))
  have h2 := H1.out.next b2
  have hb2 := HBX.out.below b2 HBX.out.lt
  have c1 : w2.cell? ⟨w.heap.size, 1, none⟩ = some (.string k) := hb2.at 1 rfl
  have c2 : w2.cell? ⟨w.heap.size, 2, none⟩ = some (.string tk) := hb2.at 2 rfl
  have c3 : w2.cell? ⟨w.heap.size, 3, none⟩ = some (.int .i64 v) := hb2.at 3 rfl
  have hrs := tscan_any w2 B rb kc vc ka va (entsT T) h2.ts.ok.sorted h2.ts.few h2.rt k tk v hsx
  unfold RScan at hrs
  have H2 := Lib.hid h2
  have HB2 := Lib.hid (HB0.out.trans (b2.mono (by rw [hz]; have := HG.out; omega)))
  have hsp := fun W => spoil_any W (.slice none 0 0) 0 0 [] (World.ownsRow_nil _ _ _ _) (-7)
  have hst := fun W (xk : Option Addr) (kk : Nat) => sameTexts_any W none xk 0 0 0 kk [] [] rfl rfl (by omega) (fun j hj => by simp at hj) (fun j hj => by simp at hj)
  have hsi := fun W (xk : Option Addr) (kk : Nat) => sameInts_any W none xk 0 0 0 kk [] [] rfl rfl (by omega) (fun j hj => by simp at hj) (fun j hj => by simp at hj)
  simp only [decide_true, List.length_nil] at hst hsi hrs
  clear h2 hb2 b2 hsc hsx
  go_wp2_with (first
    | (go_at_call 73; refine (hsp _).mono ?_; rintro e w6 ⟨rfl, cS⟩)
    | (go_at_call 50; refine (hsi _ _ _).mono ?_; rintro e w5 ⟨rfl, q2, rfl⟩)
    | (go_at_call 32; refine (hst _ _ _).mono ?_; rintro e w4 ⟨rfl, q1, rfl⟩)
    | (go_at_call 72; refine hrs.mono ?_; rintro e w3 ⟨xk, kk, xv, kv, rfl, _, _, c3'⟩))
  have C6 : Chg [] w2 w6 := (c3'.drewN (q1 + q2)).trans cS (by simp [Value.ownBlock])
  have H6 := Lib.hid (H2.out.next (C6.below (Nat.le_refl _) (by simp)))
  have HB6 := Lib.hid (HB2.out.trans (C6.below (B := B) (by have h1 := HB2.out.size; have h2 := HG.out; omega) (by simp)))
  clear C6 cS c3' hrs hsp hst hsi
  go_loopg [30] 0 (fun gn i wr => i = .int .i64 0 ∧ gn = 0 ∧ wr = w6)
  case atStart => exact ⟨rfl, rfl, rfl⟩
  case round =>
    obtain ⟨rfl, rfl, rfl⟩ := hrel
    go_wp2_with fail
    go_ret
    exact ⟨rfl, M, T, ka, kc, va, vc, rfl, ⟨H6.out.ts.mono (by omega), H6.out.rt⟩, HB6.out⟩

set_option maxRecDepth 100000 in
set_option maxHeartbeats 4000000 in
theorem step_scan (w : World) (B n rb kc vc : Nat) (ka va : Option Addr) (M : TrM) (T : Tr) (h : Two B w M T n rb kc vc ka va) (hn : n ≤ 9000) (x : ActT) (hx : x.kind % 4 = 3) (hm1 : 1 ≤ x.val) (hm2 : x.val ≤ 4096) :
    Calls Try.prog 52 #[.pointer (some ⟨M.tb, 0, none⟩), .pointer (some ⟨rb, 0, none⟩), .agg (boxT x)] w (StepP B w M n rb) := by
  obtain ⟨kd, k, tk, v⟩ := x
  dsimp only at hx hm1 hm2
  unfold boxT
  dsimp only
  obtain ⟨m, rfl⟩ := Int.eq_ofNat_of_zero_le (show 0 ≤ v by omega)
  have ham := fun W => amongT kd 4 W (by omega) (by omega)
  rw [hx] at ham
  have h1 := h.alloc (.cells #[.int .i64 kd, .string k, .string tk, .int .i64 m] 69)
  have hbx : Blk (w.alloc (.cells #[.int .i64 kd, .string k, .string tk, .int .i64 m] 69)) w.heap.size 69 #[.int .i64 kd, .string k, .string tk, .int .i64 m] := Blk.new w 69 _
  have hsc := scan_ts h1.ts (by omega) k tk m (by omega) (by omega)
  have hsv := scanT_valid (fr := k) (tk := tk) (most := m) T
  have hsl := scanT_S_len h.ts.ok k tk m
  have hA := scanT_A (fr := k) (tk := tk) (most := m) h.ts.ok
  have hbn := h.ts.bnd.1
  obtain ⟨st, hst⟩ : ∃ st, st = scanT T k tk m := ⟨_, rfl⟩
  have hsi := seen_in hst
  rw [← hst] at hsc hsv hsl hA
  obtain ⟨R, S⟩ := st
  dsimp only at hsl hA hsi
  unfold ScanTr at hsc
  dsimp only at hsc
  have hge : B ≤ w.heap.size := by
    have := h.rt.ge
    have := h.rt.top.lt
    omega
  have hb0 : Below B w (w.alloc (.cells #[.int .i64 kd, .string k, .string tk, .int .i64 m] 69)) := ((Below.refl _ w).alloc (Nat.le_refl _) _).mono hge
  have hz : (w.alloc (.cells #[.int .i64 kd, .string k, .string tk, .int .i64 m] 69)).heap.size = w.heap.size + 1 := by simp
  rw [hz] at hsc
  have H1 := Lib.hid h1
  have HBX := Lib.hid hbx
  have HG := Lib.hid hge
  have HB0 := Lib.hid hb0
  have HSI := Lib.hid hsi
  obtain ⟨tb, htb⟩ : ∃ tb, tb = M.tb := ⟨_, rfl⟩
  have HTB := Lib.hid htb
  rw [← htb] at hsc ⊢
  clear h h1 hbx htb hge hb0 hst hsi
  have hsx : scanC (entsT T) k tk m = (R, 0) := by unfold scanC; rw [if_neg (by omega), Int.toNat_natCast, hA]
  clear hA
  go_enter Try.func52, Try.ntmps52
  go_upto_region 15 with (first
    | (go_at_call 47; refine hsc.mono ?_; rintro e w2 ⟨a8, c8, a9, c9, a10, c10, rfl, h8, h9, h10, b2⟩)
    | (go_at_call 42; refine (ham _).mono ?_; rintro e w1 ⟨rfl, rfl⟩))
  have b2w : Below (w.alloc (.cells #[.int .i64 kd, .string k, .string tk, .int .i64 m] 69)).heap.size (w.alloc (.cells #[.int .i64 kd, .string k, .string tk, .int .i64 m] 69)) w2 := by rw [hz]; exact b2
  have h2 := H1.out.next b2w
  have hb2 := HBX.out.below b2w HBX.out.lt
  have c1 : w2.cell? ⟨w.heap.size, 1, none⟩ = some (.string k) := hb2.at 1 rfl
  have c2 : w2.cell? ⟨w.heap.size, 2, none⟩ = some (.string tk) := hb2.at 2 rfl
  have c3 : w2.cell? ⟨w.heap.size, 3, none⟩ = some (.int .i64 m) := hb2.at 3 rfl
  have hrs := tscan_any w2 B rb kc vc ka va (entsT T) h2.ts.ok.sorted h2.ts.few h2.rt k tk m hsx
  unfold RScan at hrs
  have H2 := Lib.hid h2
  have HB12 := Lib.hid b2
  have HB2 := Lib.hid (HB0.out.trans (b2w.mono (by rw [hz]; have := HG.out; omega)))
  have hz2 : w.heap.size + 1 ≤ w2.heap.size := by have := b2w.size; rw [hz] at this; exact this
  have hmax := own_max h8
  have H8 := Lib.hid h8
  have H9 := Lib.hid h9
  have H10 := Lib.hid h10
  clear h2 hb2 b2 b2w hsc hsx h8 h9 h10
  go_upto_region 16 with (go_at_call 72; refine hrs.mono ?_; rintro e w3 ⟨xk, kk, xv, kv, rfl, ok3, ov3, c3'⟩)
  have h83 := own_chg H8.out c3' (by simp)
  have h93 := own_chg H9.out c3' (by simp)
  have h103 := own_chg H10.out c3' (by simp)
  have hst := sameTexts_any w3 a8 xk _ _ c8 kk (R.map (·.1)) (R.map (·.1)) (List.length_map _) (List.length_map _) ⟨hmax, hmax⟩ (own_keys h83) (own_keys ok3)
  rw [decide_eq_true rfl] at hst
  have hsi := fun q => sameInts_any (w3.drewN q) a9 xv _ _ c9 kv (R.map (·.2)) (R.map (·.2)) (List.length_map _) (List.length_map _) ⟨hmax, hmax⟩ (own_vals (own_chg h93 ((Chg.refl [] w3).drewN q) (by simp))) (own_vals (own_chg ov3 ((Chg.refl [] w3).drewN q) (by simp)))
  simp only [decide_true] at hsi
  have h33 := H2.out.next (c3'.below (Nat.le_refl _) (by simp))
  have hvl := fun q => valid_ts (h33.ts.drewN q) (by omega) a10 c10 _ S rfl (by omega) (rd3_own (own_chg h103 ((Chg.refl [] w3).drewN q) (by simp))) HSI.out
  rw [hsv, ← HTB.out] at hvl
  have H33 := Lib.hid h33
  have O8 := Lib.hid h83
  have O9 := Lib.hid h93
  have z33 := c3'.size
  have HB13 := Lib.hid (HB12.out.trans (c3'.below (B := w.heap.size + 1) hz2 (by simp)))
  have HB3 := Lib.hid (HB2.out.trans (c3'.below (B := B) (by have h1 := HB2.out.size; have h2 := HG.out; omega) (by simp)))
  obtain ⟨r, hr⟩ : ∃ r, r = R.length := ⟨_, rfl⟩
  rw [← hr] at hst hsi hmax ⊢
  have HR := Lib.hid hr
  obtain ⟨sl, hsl2⟩ : ∃ sl, sl = S.length := ⟨_, rfl⟩
  rw [← hsl2] at hvl ⊢
  clear h83 h93 h103 h33 ok3 ov3 c3' hrs H8 H9 H10 hr hsl hsl2 hsv
  go_upto_region 17 with (first
    | (go_at_call 49; refine (hvl (q1 + q2)).mono ?_; rintro e w6 ⟨rfl, b6⟩)
    | (go_at_call 50; refine (hsi q1).mono ?_; rintro e w5 ⟨rfl, q2, rfl⟩)
    | (go_at_call 32; refine hst.mono ?_; rintro e w4 ⟨rfl, q1, rfl⟩))
  have O86 := own_chg (own_chg O8.out ((Chg.refl [] w3).drewN (q1 + q2)) (by simp)) (Chg.of_below b6 []) (by simp)
  have O96 := own_chg (own_chg O9.out ((Chg.refl [] w3).drewN (q1 + q2)) (by simp)) (Chg.of_below b6 []) (by simp)
  have B16 : Below (w.heap.size + 1) (w.alloc (.cells #[.int .i64 kd, .string k, .string tk, .int .i64 m] 69)) w6 := (below_drewN HB13.out (q1 + q2)).trans (b6.mono (by simp only [World.heap_drewN]; omega))
  have z6 := B16.size
  rw [hz] at z6
  have hsp := spoil_any w6 _ _ _ _ O96 (-7)
  rw [← HR.out] at hsp
  have H86 := Lib.hid O86
  have H96 := Lib.hid O96
  have HB16 := Lib.hid B16
  clear O86 O96 B16 b6 hst hsi hvl
  go_wp2_with (go_at_call 73; refine hsp.mono ?_; rintro e w7 ⟨rfl, cS⟩)
  have O87 : w7.ownsRow (w.heap.size + 1) 9 1 (.slice a8 r c8) r (R.map fun e => .string e.1) := by
    have h86 := H86.out
    have h96 := H96.out
    rw [← HR.out] at h86 h96
    exact own_chg h86 cS (fun b hb hm => own_own h86 h96 (by decide) b hb (Option.mem_toList.1 hm))
  have B17 : Below (w.heap.size + 1) (w.alloc (.cells #[.int .i64 kd, .string k, .string tk, .int .i64 m] 69)) w7 := HB16.out.trans (cS.below z6 (fun q hq => by
    have h96 := H96.out
    rw [← HR.out] at h96
    exact below_own h96 q (Option.mem_toList.1 hq)))
  have HO := Lib.hid O87
  have HB17 := Lib.hid B17
  have hr63 : r ≤ 9223372036854775807 := hmax
  clear O87 B17 cS hsp H86 H96 HB16
  go_loopg [30] r (fun gn i wr => ∃ (j : Nat) (xs : List Value), j ≤ r ∧ i = .int .i64 j ∧ gn = r - j ∧ wr.ownsRow (w.heap.size + 1) 9 1 (.slice a8 r c8) r xs ∧ Below (w.heap.size + 1) (w.alloc (.cells #[.int .i64 kd, .string k, .string tk, .int .i64 m] 69)) wr)
  case atStart => exact ⟨0, _, Nat.zero_le _, rfl, rfl, HO.out, HB17.out⟩
  case round =>
    clear HO HB17
    obtain ⟨j, xs, hj, rfl, rfl, ho, hb⟩ := hrel
    by_cases hjr : j < r
    · have hjI : (j : Int) < (r : Int) := by omega
      obtain ⟨u, hu⟩ : ∃ u, xs[j]? = some u := ⟨_, List.getElem?_eq_getElem (by have := ho.1; omega)⟩
      obtain ⟨g, rfl, hgS, hgl, cg⟩ := own_rd ho j u hu
      have fg := ho.frozenAt j
      have hst := (ho.stored j (.string ⟨#[115, 112, 111, 105, 108, 116]⟩)).1
      have HST := Lib.hid hst
      have HBN := Lib.hid (hb.setCell (p := ⟨g, j, none⟩) hgS (.string ⟨#[115, 112, 111, 105, 108, 116]⟩))
      clear ho hb hst hu
      go_wp2_with fail
      go_roundg (r - (j + 1))
      case rel => exact ⟨j + 1, _, by omega, by go_num, rfl, HST.out, HBN.out⟩
      case measure => omega
    · obtain rfl : j = r := by omega
      have HBE := Lib.hid hb
      clear ho hb
      go_wp2_with fail
      go_ret
      have h6 := H1.out.next (by rw [hz]; exact HBE.out)
      exact ⟨rfl, M, T, ka, kc, va, vc, rfl, ⟨h6.ts.mono (by omega), h6.rt⟩, HB0.out.trans (HBE.out.mono (by have := HG.out; omega))⟩

theorem step_any (w : World) (B n rb kc vc : Nat) (ka va : Option Addr) (M : TrM) (T : Tr) (h : Two B w M T n rb kc vc ka va) (hn : n ≤ 9000) (x : ActT) :
    Calls Try.prog 52 #[.pointer (some ⟨M.tb, 0, none⟩), .pointer (some ⟨rb, 0, none⟩), .agg (boxT x)] w (StepP B w M n rb) := by
  have h4 : x.kind % 4 = 0 ∨ x.kind % 4 = 1 ∨ x.kind % 4 = 2 ∨ x.kind % 4 = 3 := by omega
  rcases h4 with h4 | h4 | h4 | h4
  · exact step_put w B n rb kc vc ka va M T h hn x h4
  · exact step_get w B n rb kc vc ka va M T h hn x h4
  · exact step_take w B n rb kc vc ka va M T h hn x h4
  · by_cases hm : x.val < 1 ∨ 4096 < x.val
    · exact step_bad w B n rb kc vc ka va M T h hn x h4 hm
    · exact step_scan w B n rb kc vc ka va M T h hn x h4 (by omega) (by omega)

set_option maxRecDepth 100000 in
set_option maxHeartbeats 4000000 in
theorem treePlays_any (w : World) (aa : Option Addr) (an ac : Nat) (A : List ActT) (hA : A.length = an) (_ : an ≤ 9223372036854775807) (hra : RdT w w.heap.size aa A) :
    Calls Try.prog 13 #[.slice aa an ac] w fun e w' => e = .returned (.bool true) ∧ Below w.heap.size w w' := by
  have HRA := Lib.hid hra
  have HA := Lib.hid hA
  have hnew := new_ts w
  clear hra hA
  go_enter Try.func13, Try.ntmps13
  go_wp2_with (go_at_call 40; refine hnew.mono ?_; rintro e w1 ⟨M, T, rfl, hS, hE, b1⟩)
  have hrt : RT w.heap.size (w1.alloc (.cells #[.slice none 0 0, .slice none 0 0] 81)) w1.heap.size (entsT T) none 0 none 0 := by
    rw [hE]
    exact ⟨Blk.new w1 81 _, World.ownsRow_nil _ _ _ _, World.ownsRow_nil _ _ _ _, b1.size⟩
  have h2 : Two w.heap.size (w1.alloc (.cells #[.slice none 0 0, .slice none 0 0] 81)) M T 0 w1.heap.size 0 0 none none := ⟨hS.below ((Below.refl _ w1).alloc (Nat.le_refl _) _), hrt⟩
  have hb2 := b1.alloc b1.size (.cells #[.slice none 0 0, .slice none 0 0] 81)
  obtain ⟨tb, htb⟩ : ∃ tb, M.tb = tb := ⟨_, rfl⟩
  obtain ⟨rb, hrb⟩ : ∃ rb, rb = w1.heap.size := ⟨_, rfl⟩
  rw [← hrb] at h2 ⊢
  rw [htb]
  generalize (w1.alloc (.cells #[.slice none 0 0, .slice none 0 0] 81)) = W2 at h2 hb2 ⊢
  have H2 := Lib.hid h2
  have HB2 := Lib.hid hb2
  have HTB := Lib.hid htb
  clear h2 hb2 hrt hS hE b1 htb hrb
  go_loopg [5] 400 (fun gn i wr => ∃ (t : Nat) (M : TrM) (T : Tr) (ka : Option Addr) (kc : Nat) (va : Option Addr) (vc : Nat), t ≤ 400 ∧ t ≤ an ∧ i = .int .i64 t ∧ gn = 400 - t ∧ M.tb = tb ∧ Two w.heap.size wr M T t rb kc vc ka va ∧ Below w.heap.size w wr)
  case atStart => exact ⟨0, M, T, none, 0, none, 0, by omega, Nat.zero_le _, rfl, rfl, HTB.out, H2.out, HB2.out⟩
  case round =>
    clear H2 HB2 HTB
    obtain ⟨t, M, T, ka, kc, va, vc, ht4, hta, rfl, rfl, htb, h, hb⟩ := hrel
    by_cases hgo : t < an ∧ t < 400
    · obtain ⟨hg1, hg2⟩ := hgo
      have hgI1 : (t : Int) < (an : Int) := by omega
      have hgI2 : (t : Int) < 400 := by omega
      obtain ⟨b, off, rfl, hbl, q0, q1, q2, q3⟩ := HRA.out t (by rw [HA.out]; exact hg1)
      have hbw := hb.size
      have r0 := (hb.cell (p := ⟨b, _, none⟩) hbl).trans q0
      have r1 := (hb.cell (p := ⟨b, _, none⟩) hbl).trans q1
      have r2 := (hb.cell (p := ⟨b, _, none⟩) hbl).trans q2
      have r3 := (hb.cell (p := ⟨b, _, none⟩) hbl).trans q3
      have hd : Two w.heap.size wr.drew M T t rb kc vc ka va := h.next ((Below.refl _ wr).drew)
      have hst := step_any wr.drew w.heap.size t rb kc vc ka va M T hd (by omega) (A.getD t actT0)
      unfold boxT at hst
      generalize A.getD t actT0 = x at q0 q1 q2 q3 r0 r1 r2 r3 hst
      obtain ⟨xk, xy, xt, xv⟩ := x
      dsimp only at q0 q1 q2 q3 r0 r1 r2 r3 hst
      rw [htb] at hst
      unfold StepP at hst
      have HB := Lib.hid hb
      have HTB := Lib.hid htb
      clear h hb hd q0 q1 q2 q3 htb
      go_upto_region 7 with fail
      go_region_with
        (first
          | (go_at_call 45; refine hLn.mono ?_; rintro e w6 ⟨rfl, rfl⟩)
          | (go_at_call 52; refine hst.mono ?_; rintro e w5 ⟨rfl, M', T', ka', kc', va', vc', htb', h5, b5⟩; have s0 := (b5.cell (p := ⟨b, _, none⟩) hbl).trans r0; have s1 := (b5.cell (p := ⟨b, _, none⟩) hbl).trans r1; have s2 := (b5.cell (p := ⟨b, _, none⟩) hbl).trans r2; have s3 := (b5.cell (p := ⟨b, _, none⟩) hbl).trans r3; have hLn := len_ts h5.ts; rw [htb', HTB.out] at hLn; have cc := h5.rt.c0; have H5 := Lib.hid h5; have HT5 := Lib.hid htb'))
      all_goals
        go_wp2_with fail
        go_roundg (400 - (t + 1))
        case rel => exact ⟨t + 1, M', T', ka', kc', va', vc', by omega, by omega, by go_num, rfl, HT5.out.trans HTB.out, H5.out, HB.out.drew.trans b5⟩
        case measure => omega
    · have hss := h.ts.ok.sorted
      have hfew := h.ts.few
      have hsc := scan_ts h.ts (by omega) ⟨#[]⟩ ⟨#[]⟩ 4096 (by omega) (by omega)
      have hA1 := scanT_A (fr := ⟨#[]⟩) (tk := ⟨#[]⟩) (most := 4096) h.ts.ok
      rw [show scanE (entsT T) ⟨#[]⟩ ⟨#[]⟩ 4096 = entsT T from scanE_nothing hss (by omega)] at hA1
      generalize scanT T ⟨#[]⟩ ⟨#[]⟩ 4096 = st1 at hsc hA1
      obtain ⟨R, S⟩ := st1
      dsimp only at hA1
      unfold ScanTr at hsc
      dsimp only at hsc
      rw [htb] at hsc
      have hrt := h.rt
      rw [← hA1] at hrt
      have HRT := Lib.hid hrt
      have HB := Lib.hid hb
      have hbs := hb.size
      have hmax := own_max hrt.keys
      clear h hrt hss hfew hA1 hb htb
      have hcase : (an ≤ t) ∨ (t < an ∧ 400 ≤ t) := by omega
      have hfin : ∀ w3 : World, Below wr.heap.size wr w3 → Below w.heap.size w w3 := fun w3 h3 => HB.out.trans (h3.mono hbs)
      rcases hcase with hc1 | ⟨hc1, hc2⟩
      · have hI1 : ¬ (t : Int) < (an : Int) := by omega
        clear hgo
        go_wp2_with (first
          | (go_at_call 41; refine (treeWorks_any _).mono ?_; rintro e w6 ⟨rfl, b6⟩)
          | (go_at_call 50; refine (hsi q1).mono ?_; rintro e w5 ⟨rfl, q2, rfl⟩)
          | (go_at_call 32; refine hst.mono ?_; rintro e w4 ⟨rfl, q1, rfl⟩)
          | (go_at_call 47; refine hsc.mono ?_; rintro e w3 ⟨a8, c8, a9, c9, a10, c10, rfl, h8, h9, _, b3⟩; have hr3 := HRT.out.next b3; have cc0 := hr3.c0; have cc1 := hr3.c1; have hst := sameTexts_any w3 a8 ka _ _ c8 kc (R.map (·.1)) (R.map (·.1)) (List.length_map _) (List.length_map _) ⟨hmax, hmax⟩ (own_keys h8) (own_keys hr3.keys); rw [decide_eq_true rfl] at hst; have hsi := fun q => sameInts_any (w3.drewN q) a9 va _ _ c9 vc (R.map (·.2)) (R.map (·.2)) (List.length_map _) (List.length_map _) ⟨hmax, hmax⟩ (own_vals (own_chg h9 ((Chg.refl [] w3).drewN q) (by simp))) (own_vals (own_chg hr3.vals ((Chg.refl [] w3).drewN q) (by simp))); simp only [decide_true] at hsi; have hb3 := hfin _ b3; have hz3 := hb3.size; have HB3 := Lib.hid hb3))
        go_ret
        exact ⟨rfl, (below_drewN HB3.out (q1 + q2)).trans (b6.mono (by simp only [World.heap_drewN]; omega))⟩
      · have hI1 : (t : Int) < (an : Int) := by omega
        have hI2 : ¬ (t : Int) < 400 := by omega
        clear hgo
        go_wp2_with (first
          | (go_at_call 41; refine (treeWorks_any _).mono ?_; rintro e w6 ⟨rfl, b6⟩)
          | (go_at_call 50; refine (hsi q1).mono ?_; rintro e w5 ⟨rfl, q2, rfl⟩)
          | (go_at_call 32; refine hst.mono ?_; rintro e w4 ⟨rfl, q1, rfl⟩)
          | (go_at_call 47; refine hsc.mono ?_; rintro e w3 ⟨a8, c8, a9, c9, a10, c10, rfl, h8, h9, _, b3⟩; have hr3 := HRT.out.next b3; have cc0 := hr3.c0; have cc1 := hr3.c1; have hst := sameTexts_any w3 a8 ka _ _ c8 kc (R.map (·.1)) (R.map (·.1)) (List.length_map _) (List.length_map _) ⟨hmax, hmax⟩ (own_keys h8) (own_keys hr3.keys); rw [decide_eq_true rfl] at hst; have hsi := fun q => sameInts_any (w3.drewN q) a9 va _ _ c9 vc (R.map (·.2)) (R.map (·.2)) (List.length_map _) (List.length_map _) ⟨hmax, hmax⟩ (own_vals (own_chg h9 ((Chg.refl [] w3).drewN q) (by simp))) (own_vals (own_chg hr3.vals ((Chg.refl [] w3).drewN q) (by simp))); simp only [decide_true] at hsi; have hb3 := hfin _ b3; have hz3 := hb3.size; have HB3 := Lib.hid hb3))
        go_ret
        exact ⟨rfl, (below_drewN HB3.out (q1 + q2)).trans (b6.mono (by simp only [World.heap_drewN]; omega))⟩

end Go.Proofs.Ythplnecnagbedaa
