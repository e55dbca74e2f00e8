/- do of the document's machine, by its contract, kind by kind; conditions: the task's instruction may be. -/
import Derived.Test.YtlcgighhiacnpaaWdRefMem
import Derived.Test.YtlcgighhiacnpaaWdStep
import Derived.Deep.RegionHeld3
namespace Go.Proofs.Ytlcgighhiacnpaa
open Go.RowKit

def DoPost (B mb pb rb db : Nat) (ta : Option Addr) (tn tc : Nat) (cv : Value) (w : World) (r : RS × Bool) (e : Ending) (w' : World) : Prop :=
  e = .returned (.bool r.2) ∧ MAt B mb pb rb db ta tn tc cv w' r.1 ∧ Below B w w'
/-- What the code finds as do is called. -/
structure DoAt (w : World) (D mb pb rb db : Nat) (ta : Option Addr) (tn tc : Nat) (cv : Value) (T : List (List Ins)) (s : RS) (t : Nat) (b off b2 off2 ct : Nat) (x : Ins) : Prop where
  hta : ta = some ⟨b, off, none⟩
  hb : b < D
  ct_ : w.cell? ⟨b, off + t, none⟩ = some (.slice (some ⟨b2, off2, none⟩) (T.getD t []).length ct)
  hb2 : b2 < D
  c0 : w.cell? ⟨b2, off2 + s.pl t * 4, none⟩ = some (.int .i64 x.k)
  c1 : w.cell? ⟨b2, off2 + s.pl t * 4 + 1, none⟩ = some (.int .i64 x.a)
  c2 : w.cell? ⟨b2, off2 + s.pl t * 4 + 2, none⟩ = some (.int .i64 x.b)
  c3 : w.cell? ⟨b2, off2 + s.pl t * 4 + 3, none⟩ = some (.int .i64 x.n)
theorem doAt_of {w : World} {D mb pb rb db : Nat} {ta : Option Addr} {tn tc : Nat} {cv : Value} {T : List (List Ins)} {s : RS} {t : Nat} (hT : T.length = tn) (hrd : RdT w D ta T) (ht : t < tn) (hp : s.pl t < (T.getD t []).length) :
    ∃ b off b2 off2 ct, DoAt w D mb pb rb db ta tn tc cv T s t b off b2 off2 ct (insR T s t) := by
  obtain ⟨b, off, at_, ct, e1, hb, c0, h1, h2, hri⟩ := hrd t (by rw [hT]; exact ht)
  obtain ⟨b2, off2, e2, hb2, k0, k1, k2, k3⟩ := hri (s.pl t) hp
  subst e2
  exact ⟨b, off, b2, off2, ct, e1, hb, c0, hb2, k0, k1, k2, k3⟩
theorem addW (r u : Nat) : IntKind.u64.wrap ((r : Int) + (u : Int)) = (((r + u) % 18446744073709551616 : Nat) : Int) := by rw [IntKind.wrap_u64]; omega
theorem MAt.rlt {B mb pb rb db : Nat} {ta : Option Addr} {tn tc : Nat} {cv : Value} {w : World} {s : RS} (h : MAt B mb pb rb db ta tn tc cv w s) {t : Nat} (ht : t < tn) (A : Nat) : (s.rg t).getD A 0 < 18446744073709551616 := by
  have hl : t < s.regs.length := by rw [h.rl]; exact ht
  have hm : s.rg t ∈ s.regs := by
    have : s.rg t = s.regs[t] := by simp [RS.rg, List.getD, hl]
    rw [this]; exact List.getElem_mem hl
  exact (h.rows _ hm).2 A

set_option maxRecDepth 1000000 in
set_option maxHeartbeats 4000000 in
theorem do_k1 (w : World) (B D mb pb rb db : Nat) (ta : Option Addr) (tn tc : Nat) (cv : Value) (T : List (List Ins)) (s : RS) (t b off b2 off2 ct : Nat) (x : Ins) (hx : insR T s t = x) (hM : MAt B mb pb rb db ta tn tc cv w s) (hA : DoAt w D mb pb rb db ta tn tc cv T s t b off b2 off2 ct x) (hDB : D ≤ B) (ht : t < tn) (htn : tn ≤ 4096)
    (hp : s.pl t < (T.getD t []).length) (hl : (T.getD t []).length ≤ 4096) (ha : 0 ≤ x.a ∧ x.a ≤ 7) (hb : 0 ≤ x.b ∧ x.b ≤ 7) (hk : x.k = 1) :
    Calls Try.prog 29 #[.pointer (some ⟨mb, 0, none⟩), .int .i64 t] w (DoPost B mb pb rb db ta tn tc cv w (doR T s t)) := by
  obtain ⟨xk, xa, xb, xn⟩ := x
  dsimp only at ha hb hk
  subst hk
  obtain ⟨A, rfl⟩ := Int.eq_ofNat_of_zero_le ha.1
  obtain ⟨E, rfl⟩ := Int.eq_ofNat_of_zero_le hb.1
  have hA8 : A < 8 := by omega
  have hE8 : E < 8 := by omega
  obtain ⟨R, hR⟩ : ∃ R, R = doR T s t := ⟨_, rfl⟩
  rw [← hR]
  unfold doR at hR
  rw [hx] at hR
  simp only [Int.toNat_natCast] at hR
  obtain ⟨hta, hbD, cT, hb2D, c0, c1, c2, c3⟩ := hA
  subst hta
  dsimp only at c0 c1 c2 c3
  have hBw := Nat.lt_of_le_of_lt hM.hm hM.m.lt
  have m0 := hM.m.at 0 rfl
  have m1 := hM.m.at 1 rfl
  have cp := hM.at_p ht
  have fp := hM.p.free t
  have hti : (t : Int) < (tn : Int) := by omega
  have hpi : (s.pl t : Int) < ((T.getD t []).length : Int) := by omega
  have hA8i : (A : Int) < 8 := by omega
  have hE8i : (E : Int) < 8 := by omega
  have hplt : pb < w.heap.size := hM.p.lt
  have HM := Lib.hid hM
  have HR := Lib.hid hR
  have hpu : s.pl t < 4096 := by omega
  clear hM hR hx
  generalize hpp : s.pl t = p at *
  have HPP := Lib.hid hpp
  clear hpp
  generalize (T.getD t []).length = L at *
  go_enter Try.func29, Try.ntmps29
  go_upto_region 1 with fail
  go_region_held3 (fun w' => w'.cell? ⟨mb, 0, none⟩ = some (.slice (some ⟨b, off, none⟩) tn tc) ∧ w'.cell? ⟨mb, 1, none⟩ = some (.slice (some ⟨pb, 0, none⟩) tn tn) ∧ w'.cell? ⟨pb, t, none⟩ = some (.int .i64 (p : Nat)) ∧ w'.cell? ⟨b, off + t, none⟩ = some (.slice (some ⟨b2, off2, none⟩) L ct) ∧ w'.cell? ⟨b2, off2 + p * 4, none⟩ = some (.int .i64 1) ∧ w'.cell? ⟨b2, off2 + p * 4 + 1, none⟩ = some (.int .i64 A) ∧ w'.cell? ⟨b2, off2 + p * 4 + 2, none⟩ = some (.int .i64 E) ∧ w'.cell? ⟨b2, off2 + p * 4 + 3, none⟩ = some (.int .i64 xn))
    (go_keep)
    (fail)
  have hp1 : ((p + 1 : Nat) : Int) = (p : Int) + 1 := by omega
  have hM0 := HM.out.setP ht (p + 1)
  rw [hp1] at hM0
  have hR1 := HR.out
  rw [if_pos trivial] at hR1
  have HRB := Lib.hid HM.out.hr
  have HPB := Lib.hid HM.out.hp
  have HDB := Lib.hid HM.out.hd
  have hb0 : Below B w (w.setCell ⟨pb, t, none⟩ (.int .i64 ((p : Int) + 1))) := (Below.refl B w).setCell HM.out.hp _
  have hsz : (w.setCell ⟨pb, t, none⟩ (.int .i64 ((p : Int) + 1))).heap.size = w.heap.size := World.size_setCell _ _ _
  go_upto_region 6 with fail
  obtain ⟨W, hWe⟩ : ∃ W, W = ((w.setCell ⟨pb, t, none⟩ (.int .i64 ((p : Int) + 1))).alloc (Obj.cells #[.int .i64 1, .int .i64 A, .int .i64 E, .int .i64 xn] 50)).drew := ⟨_, rfl⟩
  have hW : MAt B mb pb rb db (some ⟨b, off, none⟩) tn tc cv W ⟨s.places.set t (p + 1), s.regs, s.done, s.C, s.steps⟩ := by rw [hWe]; exact hM0.chg0 (((Chg.refl [] _).alloc _).drew)
  have hI : Blk W w.heap.size 50 #[.int .i64 1, .int .i64 A, .int .i64 E, .int .i64 xn] := by rw [hWe]; exact (Blk.new' _ 50 _ hsz.symm).drew
  have HBW : Hid (Below B w W) := Lib.hid (by rw [hWe]; exact (hb0.alloc (by rw [hsz]; omega) _).drew)
  rw [← hWe]
  have hWd : MAt B mb pb rb db (some ⟨b, off, none⟩) tn tc cv W.drew ⟨s.places.set t (p + 1), s.regs, s.done, s.C, s.steps⟩ := hW.chg0 ((Chg.refl [] _).drew)
  clear hWe hM0 hb0 hsz hp1 m0 m1 cp fp c0 c1 c2 c3 cT
  have f1 := hW.r.free (t * 8 + A)
  have ca := hW.at_r ht hA8
  have g1 : W.cell? ⟨w.heap.size, 1, none⟩ = some (.int .i64 A) := hI.at 1 rfl
  have g3 : W.cell? ⟨w.heap.size, 3, none⟩ = some (.int .i64 xn) := hI.at 3 rfl
  have m3 : W.cell? ⟨mb, 3, none⟩ = some (.slice (some ⟨rb, 0, none⟩) tn tn) := hW.m.at 3 rfl
  have hu := u64_wrap xn
  have hfin := fun v hv => hWd.setR ht hA8 (v := v) hv
  have hul := u64_lt xn
  generalize u64 xn = x at hu hul hR1
  clear hW hWd hI
  subst hR1
  (refine wp_region_still_tail 13 (by kernel_rfl) (by kernel_rfl) ?_; simp only [List.take_succ_cons, List.take_zero, List.drop_succ_cons, List.drop_zero]; change wpStill _ _ (World.drew _) _ _ _; (repeat still_step); refine wpStill_nil ?_; change wpList _ _ _ _ _ (World.drew _))
  go_wp2_with fail
  go_ret
  exact ⟨rfl, hfin x hul, HBW.out.drew.setCell HRB.out _⟩

set_option maxRecDepth 1000000 in
set_option maxHeartbeats 4000000 in
theorem do_k2 (w : World) (B D mb pb rb db : Nat) (ta : Option Addr) (tn tc : Nat) (cv : Value) (T : List (List Ins)) (s : RS) (t b off b2 off2 ct : Nat) (x : Ins) (hx : insR T s t = x) (hM : MAt B mb pb rb db ta tn tc cv w s) (hA : DoAt w D mb pb rb db ta tn tc cv T s t b off b2 off2 ct x) (hDB : D ≤ B) (ht : t < tn) (htn : tn ≤ 4096)
    (hp : s.pl t < (T.getD t []).length) (hl : (T.getD t []).length ≤ 4096) (ha : 0 ≤ x.a ∧ x.a ≤ 7) (hb : 0 ≤ x.b ∧ x.b ≤ 7) (hk : x.k = 2) :
    Calls Try.prog 29 #[.pointer (some ⟨mb, 0, none⟩), .int .i64 t] w (DoPost B mb pb rb db ta tn tc cv w (doR T s t)) := by
  obtain ⟨xk, xa, xb, xn⟩ := x
  dsimp only at ha hb hk
  subst hk
  obtain ⟨A, rfl⟩ := Int.eq_ofNat_of_zero_le ha.1
  obtain ⟨E, rfl⟩ := Int.eq_ofNat_of_zero_le hb.1
  have hA8 : A < 8 := by omega
  have hE8 : E < 8 := by omega
  obtain ⟨R, hR⟩ : ∃ R, R = doR T s t := ⟨_, rfl⟩
  rw [← hR]
  unfold doR at hR
  rw [hx] at hR
  simp only [Int.toNat_natCast] at hR
  obtain ⟨hta, hbD, cT, hb2D, c0, c1, c2, c3⟩ := hA
  subst hta
  dsimp only at c0 c1 c2 c3
  have hBw := Nat.lt_of_le_of_lt hM.hm hM.m.lt
  have m0 := hM.m.at 0 rfl
  have m1 := hM.m.at 1 rfl
  have cp := hM.at_p ht
  have fp := hM.p.free t
  have hti : (t : Int) < (tn : Int) := by omega
  have hpi : (s.pl t : Int) < ((T.getD t []).length : Int) := by omega
  have hA8i : (A : Int) < 8 := by omega
  have hE8i : (E : Int) < 8 := by omega
  have hplt : pb < w.heap.size := hM.p.lt
  have HM := Lib.hid hM
  have HR := Lib.hid hR
  have hpu : s.pl t < 4096 := by omega
  clear hM hR hx
  generalize hpp : s.pl t = p at *
  have HPP := Lib.hid hpp
  clear hpp
  generalize (T.getD t []).length = L at *
  go_enter Try.func29, Try.ntmps29
  go_upto_region 1 with fail
  go_region_held3 (fun w' => w'.cell? ⟨mb, 0, none⟩ = some (.slice (some ⟨b, off, none⟩) tn tc) ∧ w'.cell? ⟨mb, 1, none⟩ = some (.slice (some ⟨pb, 0, none⟩) tn tn) ∧ w'.cell? ⟨pb, t, none⟩ = some (.int .i64 (p : Nat)) ∧ w'.cell? ⟨b, off + t, none⟩ = some (.slice (some ⟨b2, off2, none⟩) L ct) ∧ w'.cell? ⟨b2, off2 + p * 4, none⟩ = some (.int .i64 2) ∧ w'.cell? ⟨b2, off2 + p * 4 + 1, none⟩ = some (.int .i64 A) ∧ w'.cell? ⟨b2, off2 + p * 4 + 2, none⟩ = some (.int .i64 E) ∧ w'.cell? ⟨b2, off2 + p * 4 + 3, none⟩ = some (.int .i64 xn))
    (go_keep)
    (fail)
  have hp1 : ((p + 1 : Nat) : Int) = (p : Int) + 1 := by omega
  have hM0 := HM.out.setP ht (p + 1)
  rw [hp1] at hM0
  have hR1 := HR.out
  rw [if_neg (by decide), if_pos trivial] at hR1
  have HRB := Lib.hid HM.out.hr
  have HPB := Lib.hid HM.out.hp
  have HDB := Lib.hid HM.out.hd
  have hb0 : Below B w (w.setCell ⟨pb, t, none⟩ (.int .i64 ((p : Int) + 1))) := (Below.refl B w).setCell HM.out.hp _
  have hsz : (w.setCell ⟨pb, t, none⟩ (.int .i64 ((p : Int) + 1))).heap.size = w.heap.size := World.size_setCell _ _ _
  go_upto_region 8 with fail
  obtain ⟨W, hWe⟩ : ∃ W, W = ((w.setCell ⟨pb, t, none⟩ (.int .i64 ((p : Int) + 1))).alloc (Obj.cells #[.int .i64 2, .int .i64 A, .int .i64 E, .int .i64 xn] 50)).drew := ⟨_, rfl⟩
  have hW : MAt B mb pb rb db (some ⟨b, off, none⟩) tn tc cv W ⟨s.places.set t (p + 1), s.regs, s.done, s.C, s.steps⟩ := by rw [hWe]; exact hM0.chg0 (((Chg.refl [] _).alloc _).drew)
  have hI : Blk W w.heap.size 50 #[.int .i64 2, .int .i64 A, .int .i64 E, .int .i64 xn] := by rw [hWe]; exact (Blk.new' _ 50 _ hsz.symm).drew
  have HBW : Hid (Below B w W) := Lib.hid (by rw [hWe]; exact (hb0.alloc (by rw [hsz]; omega) _).drew)
  rw [← hWe]
  have hWd : MAt B mb pb rb db (some ⟨b, off, none⟩) tn tc cv W.drew ⟨s.places.set t (p + 1), s.regs, s.done, s.C, s.steps⟩ := hW.chg0 ((Chg.refl [] _).drew)
  clear hWe hM0 hb0 hsz hp1 m0 m1 cp fp c0 c1 c2 c3 cT
  have f1 := hW.r.free (t * 8 + A)
  have ca := hW.at_r ht hA8
  have g1 : W.cell? ⟨w.heap.size, 1, none⟩ = some (.int .i64 A) := hI.at 1 rfl
  have g2 : W.cell? ⟨w.heap.size, 2, none⟩ = some (.int .i64 E) := hI.at 2 rfl
  have m3 : W.cell? ⟨mb, 3, none⟩ = some (.slice (some ⟨rb, 0, none⟩) tn tn) := hW.m.at 3 rfl
  have cr := hW.at_r ht hE8
  have hfin := fun v hv => hWd.setR ht hA8 (v := v) hv
  have hul := hW.rlt ht E
  have hrg : RS.rg ⟨s.places.set t (p + 1), s.regs, s.done, s.C, s.steps⟩ t = s.rg t := rfl
  rw [hrg] at cr hul
  generalize (s.rg t).getD E 0 = x at cr hul hR1
  clear hW hWd hI hrg
  subst hR1
  (refine wp_region_still_tail 21 (by kernel_rfl) (by kernel_rfl) ?_; simp only [List.take_succ_cons, List.take_zero, List.drop_succ_cons, List.drop_zero]; change wpStill _ _ (World.drew _) _ _ _; (repeat still_step); refine wpStill_nil ?_; change wpList _ _ _ _ _ (World.drew _))
  go_wp2_with fail
  go_ret
  exact ⟨rfl, hfin x hul, HBW.out.drew.setCell HRB.out _⟩

set_option maxRecDepth 1000000 in
set_option maxHeartbeats 4000000 in
theorem do_k3 (w : World) (B D mb pb rb db : Nat) (ta : Option Addr) (tn tc : Nat) (cv : Value) (T : List (List Ins)) (s : RS) (t b off b2 off2 ct : Nat) (x : Ins) (hx : insR T s t = x) (hM : MAt B mb pb rb db ta tn tc cv w s) (hA : DoAt w D mb pb rb db ta tn tc cv T s t b off b2 off2 ct x) (hDB : D ≤ B) (ht : t < tn) (htn : tn ≤ 4096)
    (hp : s.pl t < (T.getD t []).length) (hl : (T.getD t []).length ≤ 4096) (ha : 0 ≤ x.a ∧ x.a ≤ 7) (hb : 0 ≤ x.b ∧ x.b ≤ 7) (hk : x.k = 3) :
    Calls Try.prog 29 #[.pointer (some ⟨mb, 0, none⟩), .int .i64 t] w (DoPost B mb pb rb db ta tn tc cv w (doR T s t)) := by
  obtain ⟨xk, xa, xb, xn⟩ := x
  dsimp only at ha hb hk
  subst hk
  obtain ⟨A, rfl⟩ := Int.eq_ofNat_of_zero_le ha.1
  obtain ⟨E, rfl⟩ := Int.eq_ofNat_of_zero_le hb.1
  have hA8 : A < 8 := by omega
  have hE8 : E < 8 := by omega
  obtain ⟨R, hR⟩ : ∃ R, R = doR T s t := ⟨_, rfl⟩
  rw [← hR]
  unfold doR at hR
  rw [hx] at hR
  simp only [Int.toNat_natCast] at hR
  obtain ⟨hta, hbD, cT, hb2D, c0, c1, c2, c3⟩ := hA
  subst hta
  dsimp only at c0 c1 c2 c3
  have hBw := Nat.lt_of_le_of_lt hM.hm hM.m.lt
  have m0 := hM.m.at 0 rfl
  have m1 := hM.m.at 1 rfl
  have cp := hM.at_p ht
  have fp := hM.p.free t
  have hti : (t : Int) < (tn : Int) := by omega
  have hpi : (s.pl t : Int) < ((T.getD t []).length : Int) := by omega
  have hA8i : (A : Int) < 8 := by omega
  have hE8i : (E : Int) < 8 := by omega
  have hplt : pb < w.heap.size := hM.p.lt
  have HM := Lib.hid hM
  have HR := Lib.hid hR
  have hpu : s.pl t < 4096 := by omega
  clear hM hR hx
  generalize hpp : s.pl t = p at *
  have HPP := Lib.hid hpp
  clear hpp
  generalize (T.getD t []).length = L at *
  go_enter Try.func29, Try.ntmps29
  go_upto_region 1 with fail
  go_region_held3 (fun w' => w'.cell? ⟨mb, 0, none⟩ = some (.slice (some ⟨b, off, none⟩) tn tc) ∧ w'.cell? ⟨mb, 1, none⟩ = some (.slice (some ⟨pb, 0, none⟩) tn tn) ∧ w'.cell? ⟨pb, t, none⟩ = some (.int .i64 (p : Nat)) ∧ w'.cell? ⟨b, off + t, none⟩ = some (.slice (some ⟨b2, off2, none⟩) L ct) ∧ w'.cell? ⟨b2, off2 + p * 4, none⟩ = some (.int .i64 3) ∧ w'.cell? ⟨b2, off2 + p * 4 + 1, none⟩ = some (.int .i64 A) ∧ w'.cell? ⟨b2, off2 + p * 4 + 2, none⟩ = some (.int .i64 E) ∧ w'.cell? ⟨b2, off2 + p * 4 + 3, none⟩ = some (.int .i64 xn))
    (go_keep)
    (fail)
  have hp1 : ((p + 1 : Nat) : Int) = (p : Int) + 1 := by omega
  have hM0 := HM.out.setP ht (p + 1)
  rw [hp1] at hM0
  have hR1 := HR.out
  rw [if_neg (by decide), if_neg (by decide), if_pos trivial] at hR1
  have HRB := Lib.hid HM.out.hr
  have HPB := Lib.hid HM.out.hp
  have HDB := Lib.hid HM.out.hd
  have hb0 : Below B w (w.setCell ⟨pb, t, none⟩ (.int .i64 ((p : Int) + 1))) := (Below.refl B w).setCell HM.out.hp _
  have hsz : (w.setCell ⟨pb, t, none⟩ (.int .i64 ((p : Int) + 1))).heap.size = w.heap.size := World.size_setCell _ _ _
  go_upto_region 10 with fail
  obtain ⟨W, hWe⟩ : ∃ W, W = ((w.setCell ⟨pb, t, none⟩ (.int .i64 ((p : Int) + 1))).alloc (Obj.cells #[.int .i64 3, .int .i64 A, .int .i64 E, .int .i64 xn] 50)).drew := ⟨_, rfl⟩
  have hW : MAt B mb pb rb db (some ⟨b, off, none⟩) tn tc cv W ⟨s.places.set t (p + 1), s.regs, s.done, s.C, s.steps⟩ := by rw [hWe]; exact hM0.chg0 (((Chg.refl [] _).alloc _).drew)
  have hI : Blk W w.heap.size 50 #[.int .i64 3, .int .i64 A, .int .i64 E, .int .i64 xn] := by rw [hWe]; exact (Blk.new' _ 50 _ hsz.symm).drew
  have HBW : Hid (Below B w W) := Lib.hid (by rw [hWe]; exact (hb0.alloc (by rw [hsz]; omega) _).drew)
  rw [← hWe]
  have hWd : MAt B mb pb rb db (some ⟨b, off, none⟩) tn tc cv W.drew ⟨s.places.set t (p + 1), s.regs, s.done, s.C, s.steps⟩ := hW.chg0 ((Chg.refl [] _).drew)
  clear hWe hM0 hb0 hsz hp1 m0 m1 cp fp c0 c1 c2 c3 cT
  have f1 := hW.r.free (t * 8 + A)
  have ca := hW.at_r ht hA8
  have g1 : W.cell? ⟨w.heap.size, 1, none⟩ = some (.int .i64 A) := hI.at 1 rfl
  have g2 : W.cell? ⟨w.heap.size, 2, none⟩ = some (.int .i64 E) := hI.at 2 rfl
  have g3 : W.cell? ⟨w.heap.size, 3, none⟩ = some (.int .i64 xn) := hI.at 3 rfl
  have m3 : W.cell? ⟨mb, 3, none⟩ = some (.slice (some ⟨rb, 0, none⟩) tn tn) := hW.m.at 3 rfl
  have cr := hW.at_r ht hE8
  have hu := u64_wrap xn
  have hfin := fun v hv => hWd.setR ht hA8 (v := v) hv
  have hrg : RS.rg ⟨s.places.set t (p + 1), s.regs, s.done, s.C, s.steps⟩ t = s.rg t := rfl
  rw [hrg] at cr
  generalize (s.rg t).getD E 0 = x at cr hR1
  generalize u64 xn = y at hu hR1
  have hs := addW x y
  have hul : (x + y) % 18446744073709551616 < 18446744073709551616 := Nat.mod_lt _ (by decide)
  generalize (x + y) % 18446744073709551616 = z at hs hul hR1
  clear hW hWd hI hrg
  subst hR1
  (refine wp_region_still_tail 25 (by kernel_rfl) (by kernel_rfl) ?_; simp only [List.take_succ_cons, List.take_zero, List.drop_succ_cons, List.drop_zero]; change wpStill _ _ (World.drew _) _ _ _; (repeat still_step); refine wpStill_nil ?_; change wpList _ _ _ _ _ (World.drew _))
  go_wp2_with fail
  go_ret
  exact ⟨rfl, hfin z hul, HBW.out.drew.setCell HRB.out _⟩

set_option maxRecDepth 1000000 in
set_option maxHeartbeats 4000000 in
theorem do_k4 (w : World) (B D mb pb rb db : Nat) (ta : Option Addr) (tn tc : Nat) (cv : Value) (T : List (List Ins)) (s : RS) (t b off b2 off2 ct : Nat) (x : Ins) (hx : insR T s t = x) (hM : MAt B mb pb rb db ta tn tc cv w s) (hA : DoAt w D mb pb rb db ta tn tc cv T s t b off b2 off2 ct x) (hDB : D ≤ B) (ht : t < tn) (htn : tn ≤ 4096)
    (hp : s.pl t < (T.getD t []).length) (hl : (T.getD t []).length ≤ 4096) (ha : 0 ≤ x.a ∧ x.a ≤ 7) (hb : 0 ≤ x.b ∧ x.b ≤ 7) (hn : 0 ≤ x.n ∧ x.n < (s.C.length : Int)) (hCl : s.C.length ≤ 4096) (hk : x.k = 4) :
    Calls Try.prog 29 #[.pointer (some ⟨mb, 0, none⟩), .int .i64 t] w (DoPost B mb pb rb db ta tn tc cv w (doR T s t)) := by
  obtain ⟨xk, xa, xb, xn⟩ := x
  dsimp only at ha hb hk hn
  subst hk
  obtain ⟨A, rfl⟩ := Int.eq_ofNat_of_zero_le ha.1
  obtain ⟨E, rfl⟩ := Int.eq_ofNat_of_zero_le hb.1
  obtain ⟨N, rfl⟩ := Int.eq_ofNat_of_zero_le hn.1
  have hN : N < s.C.length := by omega
  have hNi : (N : Int) < (s.C.length : Int) := by omega
  have hA8 : A < 8 := by omega
  have hE8 : E < 8 := by omega
  obtain ⟨R, hR⟩ : ∃ R, R = doR T s t := ⟨_, rfl⟩
  rw [← hR]
  unfold doR at hR
  rw [hx] at hR
  simp only [Int.toNat_natCast] at hR
  obtain ⟨hta, hbD, cT, hb2D, c0, c1, c2, c3⟩ := hA
  subst hta
  dsimp only at c0 c1 c2 c3
  have hBw := Nat.lt_of_le_of_lt hM.hm hM.m.lt
  have m0 := hM.m.at 0 rfl
  have m1 := hM.m.at 1 rfl
  have cp := hM.at_p ht
  have fp := hM.p.free t
  have hti : (t : Int) < (tn : Int) := by omega
  have hpi : (s.pl t : Int) < ((T.getD t []).length : Int) := by omega
  have hA8i : (A : Int) < 8 := by omega
  have hE8i : (E : Int) < 8 := by omega
  have hplt : pb < w.heap.size := hM.p.lt
  have HM := Lib.hid hM
  have HR := Lib.hid hR
  have hpu : s.pl t < 4096 := by omega
  clear hM hR hx
  generalize hpp : s.pl t = p at *
  have HPP := Lib.hid hpp
  clear hpp
  generalize (T.getD t []).length = L at *
  go_enter Try.func29, Try.ntmps29
  go_upto_region 1 with fail
  go_region_held3 (fun w' => w'.cell? ⟨mb, 0, none⟩ = some (.slice (some ⟨b, off, none⟩) tn tc) ∧ w'.cell? ⟨mb, 1, none⟩ = some (.slice (some ⟨pb, 0, none⟩) tn tn) ∧ w'.cell? ⟨pb, t, none⟩ = some (.int .i64 (p : Nat)) ∧ w'.cell? ⟨b, off + t, none⟩ = some (.slice (some ⟨b2, off2, none⟩) L ct) ∧ w'.cell? ⟨b2, off2 + p * 4, none⟩ = some (.int .i64 4) ∧ w'.cell? ⟨b2, off2 + p * 4 + 1, none⟩ = some (.int .i64 A) ∧ w'.cell? ⟨b2, off2 + p * 4 + 2, none⟩ = some (.int .i64 E) ∧ w'.cell? ⟨b2, off2 + p * 4 + 3, none⟩ = some (.int .i64 N))
    (go_keep)
    (fail)
  have hp1 : ((p + 1 : Nat) : Int) = (p : Int) + 1 := by omega
  have hM0 := HM.out.setP ht (p + 1)
  rw [hp1] at hM0
  have hR1 := HR.out
  rw [if_neg (by decide), if_neg (by decide), if_neg (by decide), if_pos trivial] at hR1
  have HRB := Lib.hid HM.out.hr
  have HPB := Lib.hid HM.out.hp
  have HDB := Lib.hid HM.out.hd
  have hb0 : Below B w (w.setCell ⟨pb, t, none⟩ (.int .i64 ((p : Int) + 1))) := (Below.refl B w).setCell HM.out.hp _
  have hsz : (w.setCell ⟨pb, t, none⟩ (.int .i64 ((p : Int) + 1))).heap.size = w.heap.size := World.size_setCell _ _ _
  go_upto_region 12 with fail
  obtain ⟨W, hWe⟩ : ∃ W, W = ((w.setCell ⟨pb, t, none⟩ (.int .i64 ((p : Int) + 1))).alloc (Obj.cells #[.int .i64 4, .int .i64 A, .int .i64 E, .int .i64 N] 50)).drew := ⟨_, rfl⟩
  have hW : MAt B mb pb rb db (some ⟨b, off, none⟩) tn tc cv W ⟨s.places.set t (p + 1), s.regs, s.done, s.C, s.steps⟩ := by rw [hWe]; exact hM0.chg0 (((Chg.refl [] _).alloc _).drew)
  have hI : Blk W w.heap.size 50 #[.int .i64 4, .int .i64 A, .int .i64 E, .int .i64 N] := by rw [hWe]; exact (Blk.new' _ 50 _ hsz.symm).drew
  have HBW : Hid (Below B w W) := Lib.hid (by rw [hWe]; exact (hb0.alloc (by rw [hsz]; omega) _).drew)
  rw [← hWe]
  have hWd : MAt B mb pb rb db (some ⟨b, off, none⟩) tn tc cv W.drew ⟨s.places.set t (p + 1), s.regs, s.done, s.C, s.steps⟩ := hW.chg0 ((Chg.refl [] _).drew)
  clear hWe hM0 hb0 hsz hp1 m0 m1 cp fp c0 c1 c2 c3 cT
  have f1 := hW.r.free (t * 8 + A)
  have ca := hW.at_r ht hA8
  have g1 : W.cell? ⟨w.heap.size, 1, none⟩ = some (.int .i64 A) := hI.at 1 rfl
  have g3 : W.cell? ⟨w.heap.size, 3, none⟩ = some (.int .i64 N) := hI.at 3 rfl
  have m2 : W.cell? ⟨mb, 2, none⟩ = some cv := hW.m.at 2 rfl
  have m3 : W.cell? ⟨mb, 3, none⟩ = some (.slice (some ⟨rb, 0, none⟩) tn tn) := hW.m.at 3 rfl
  obtain ⟨gc, cap, hcv, _, _, _, cc, _⟩ := hW.own.at (j := N) hN
  subst hcv
  have hfin := fun v hv => hWd.setR ht hA8 (v := v) hv
  have hul := hW.own.2 N
  have hrg : RS.C ⟨s.places.set t (p + 1), s.regs, s.done, s.C, s.steps⟩ = s.C := rfl
  rw [hrg] at cc hul m2
  generalize s.C.getD N 0 = x at cc hul hR1
  clear hW hWd hI hrg
  subst hR1
  (refine wp_region_still_tail 19 (by kernel_rfl) (by kernel_rfl) ?_; simp only [List.take_succ_cons, List.take_zero, List.drop_succ_cons, List.drop_zero]; change wpStill _ _ (World.drew _) _ _ _; (repeat still_step); refine wpStill_nil ?_; change wpList _ _ _ _ _ (World.drew _))
  go_wp2_with fail
  go_ret
  exact ⟨rfl, hfin x hul, HBW.out.drew.setCell HRB.out _⟩

set_option maxRecDepth 1000000 in
set_option maxHeartbeats 4000000 in
theorem do_k5 (w : World) (B D mb pb rb db : Nat) (ta : Option Addr) (tn tc : Nat) (cv : Value) (T : List (List Ins)) (s : RS) (t b off b2 off2 ct : Nat) (x : Ins) (hx : insR T s t = x) (hM : MAt B mb pb rb db ta tn tc cv w s) (hA : DoAt w D mb pb rb db ta tn tc cv T s t b off b2 off2 ct x) (hDB : D ≤ B) (ht : t < tn) (htn : tn ≤ 4096)
    (hp : s.pl t < (T.getD t []).length) (hl : (T.getD t []).length ≤ 4096) (ha : 0 ≤ x.a ∧ x.a ≤ 7) (hb : 0 ≤ x.b ∧ x.b ≤ 7) (hn : 0 ≤ x.n ∧ x.n < (s.C.length : Int)) (hCl : s.C.length ≤ 4096) (hk : x.k = 5) :
    Calls Try.prog 29 #[.pointer (some ⟨mb, 0, none⟩), .int .i64 t] w (DoPost B mb pb rb db ta tn tc cv w (doR T s t)) := by
  obtain ⟨xk, xa, xb, xn⟩ := x
  dsimp only at ha hb hk hn
  subst hk
  obtain ⟨A, rfl⟩ := Int.eq_ofNat_of_zero_le ha.1
  obtain ⟨E, rfl⟩ := Int.eq_ofNat_of_zero_le hb.1
  obtain ⟨N, rfl⟩ := Int.eq_ofNat_of_zero_le hn.1
  have hN : N < s.C.length := by omega
  have hNi : (N : Int) < (s.C.length : Int) := by omega
  have hA8 : A < 8 := by omega
  have hE8 : E < 8 := by omega
  obtain ⟨R, hR⟩ : ∃ R, R = doR T s t := ⟨_, rfl⟩
  rw [← hR]
  unfold doR at hR
  rw [hx] at hR
  simp only [Int.toNat_natCast] at hR
  obtain ⟨hta, hbD, cT, hb2D, c0, c1, c2, c3⟩ := hA
  subst hta
  dsimp only at c0 c1 c2 c3
  have hBw := Nat.lt_of_le_of_lt hM.hm hM.m.lt
  have m0 := hM.m.at 0 rfl
  have m1 := hM.m.at 1 rfl
  have cp := hM.at_p ht
  have fp := hM.p.free t
  have hti : (t : Int) < (tn : Int) := by omega
  have hpi : (s.pl t : Int) < ((T.getD t []).length : Int) := by omega
  have hA8i : (A : Int) < 8 := by omega
  have hE8i : (E : Int) < 8 := by omega
  have hplt : pb < w.heap.size := hM.p.lt
  have HM := Lib.hid hM
  have HR := Lib.hid hR
  have hpu : s.pl t < 4096 := by omega
  clear hM hR hx
  generalize hpp : s.pl t = p at *
  have HPP := Lib.hid hpp
  clear hpp
  generalize (T.getD t []).length = L at *
  go_enter Try.func29, Try.ntmps29
  go_upto_region 1 with fail
  go_region_held3 (fun w' => w'.cell? ⟨mb, 0, none⟩ = some (.slice (some ⟨b, off, none⟩) tn tc) ∧ w'.cell? ⟨mb, 1, none⟩ = some (.slice (some ⟨pb, 0, none⟩) tn tn) ∧ w'.cell? ⟨pb, t, none⟩ = some (.int .i64 (p : Nat)) ∧ w'.cell? ⟨b, off + t, none⟩ = some (.slice (some ⟨b2, off2, none⟩) L ct) ∧ w'.cell? ⟨b2, off2 + p * 4, none⟩ = some (.int .i64 5) ∧ w'.cell? ⟨b2, off2 + p * 4 + 1, none⟩ = some (.int .i64 A) ∧ w'.cell? ⟨b2, off2 + p * 4 + 2, none⟩ = some (.int .i64 E) ∧ w'.cell? ⟨b2, off2 + p * 4 + 3, none⟩ = some (.int .i64 N))
    (go_keep)
    (fail)
  have hp1 : ((p + 1 : Nat) : Int) = (p : Int) + 1 := by omega
  have hM0 := HM.out.setP ht (p + 1)
  rw [hp1] at hM0
  have hR1 := HR.out
  rw [if_neg (by decide), if_neg (by decide), if_neg (by decide), if_neg (by decide), if_pos trivial] at hR1
  have HRB := Lib.hid HM.out.hr
  have HPB := Lib.hid HM.out.hp
  have HDB := Lib.hid HM.out.hd
  have hb0 : Below B w (w.setCell ⟨pb, t, none⟩ (.int .i64 ((p : Int) + 1))) := (Below.refl B w).setCell HM.out.hp _
  have hsz : (w.setCell ⟨pb, t, none⟩ (.int .i64 ((p : Int) + 1))).heap.size = w.heap.size := World.size_setCell _ _ _
  go_upto_region 15 with fail
  obtain ⟨W, hWe⟩ : ∃ W, W = ((w.setCell ⟨pb, t, none⟩ (.int .i64 ((p : Int) + 1))).alloc (Obj.cells #[.int .i64 5, .int .i64 A, .int .i64 E, .int .i64 N] 50)).drew := ⟨_, rfl⟩
  have hW : MAt B mb pb rb db (some ⟨b, off, none⟩) tn tc cv W ⟨s.places.set t (p + 1), s.regs, s.done, s.C, s.steps⟩ := by rw [hWe]; exact hM0.chg0 (((Chg.refl [] _).alloc _).drew)
  have hI : Blk W w.heap.size 50 #[.int .i64 5, .int .i64 A, .int .i64 E, .int .i64 N] := by rw [hWe]; exact (Blk.new' _ 50 _ hsz.symm).drew
  have HBW : Hid (Below B w W) := Lib.hid (by rw [hWe]; exact (hb0.alloc (by rw [hsz]; omega) _).drew)
  rw [← hWe]
  have hWd : MAt B mb pb rb db (some ⟨b, off, none⟩) tn tc cv W.drew ⟨s.places.set t (p + 1), s.regs, s.done, s.C, s.steps⟩ := hW.chg0 ((Chg.refl [] _).drew)
  clear hWe hM0 hb0 hsz hp1 m0 m1 cp fp c0 c1 c2 c3 cT
  have g1 : W.cell? ⟨w.heap.size, 1, none⟩ = some (.int .i64 A) := hI.at 1 rfl
  have g3 : W.cell? ⟨w.heap.size, 3, none⟩ = some (.int .i64 N) := hI.at 3 rfl
  have m2 : W.cell? ⟨mb, 2, none⟩ = some cv := hW.m.at 2 rfl
  have m3 : W.cell? ⟨mb, 3, none⟩ = some (.slice (some ⟨rb, 0, none⟩) tn tn) := hW.m.at 3 rfl
  have cr := hW.at_r ht hA8
  obtain ⟨gc, cap, hcv, _, hgB, _, cc, f1⟩ := hW.own.at (j := N) hN
  subst hcv
  have hfin := fun v hv => hWd.setC (j := N) (v := v) hN hv
  have hul := hW.rlt ht A
  have hrg : RS.rg ⟨s.places.set t (p + 1), s.regs, s.done, s.C, s.steps⟩ t = s.rg t := rfl
  have hrc : RS.C ⟨s.places.set t (p + 1), s.regs, s.done, s.C, s.steps⟩ = s.C := rfl
  rw [hrg] at cr hul
  rw [hrc] at m2
  have HGB := Lib.hid hgB
  generalize (s.rg t).getD A 0 = x at cr hul hR1
  clear hW hWd hI hrg hrc hgB
  subst hR1
  (refine wp_region_still_tail 19 (by kernel_rfl) (by kernel_rfl) ?_; simp only [List.take_succ_cons, List.take_zero, List.drop_succ_cons, List.drop_zero]; change wpStill _ _ (World.drew _) _ _ _; (repeat still_step); refine wpStill_nil ?_; change wpList _ _ _ _ _ (World.drew _))
  go_wp2_with fail
  go_ret
  exact ⟨rfl, hfin x hul, HBW.out.drew.setCell HGB.out _⟩

set_option maxRecDepth 1000000 in
set_option maxHeartbeats 4000000 in
theorem do_k6 (w : World) (B D mb pb rb db : Nat) (ta : Option Addr) (tn tc : Nat) (cv : Value) (T : List (List Ins)) (s : RS) (t b off b2 off2 ct : Nat) (x : Ins) (hx : insR T s t = x) (hM : MAt B mb pb rb db ta tn tc cv w s) (hA : DoAt w D mb pb rb db ta tn tc cv T s t b off b2 off2 ct x) (hDB : D ≤ B) (ht : t < tn) (htn : tn ≤ 4096)
    (hp : s.pl t < (T.getD t []).length) (hl : (T.getD t []).length ≤ 4096) (ha : 0 ≤ x.a ∧ x.a ≤ 7) (hb : 0 ≤ x.b ∧ x.b ≤ 7) (hn : 0 ≤ x.n ∧ x.n < (s.C.length : Int)) (hCl : s.C.length ≤ 4096) (hk : x.k = 6) :
    Calls Try.prog 29 #[.pointer (some ⟨mb, 0, none⟩), .int .i64 t] w (DoPost B mb pb rb db ta tn tc cv w (doR T s t)) := by
  obtain ⟨xk, xa, xb, xn⟩ := x
  dsimp only at ha hb hk hn
  subst hk
  obtain ⟨A, rfl⟩ := Int.eq_ofNat_of_zero_le ha.1
  obtain ⟨E, rfl⟩ := Int.eq_ofNat_of_zero_le hb.1
  obtain ⟨N, rfl⟩ := Int.eq_ofNat_of_zero_le hn.1
  have hN : N < s.C.length := by omega
  have hNi : (N : Int) < (s.C.length : Int) := by omega
  have hA8 : A < 8 := by omega
  have hE8 : E < 8 := by omega
  obtain ⟨R, hR⟩ : ∃ R, R = doR T s t := ⟨_, rfl⟩
  rw [← hR]
  unfold doR at hR
  rw [hx] at hR
  simp only [Int.toNat_natCast] at hR
  obtain ⟨hta, hbD, cT, hb2D, c0, c1, c2, c3⟩ := hA
  subst hta
  dsimp only at c0 c1 c2 c3
  have hBw := Nat.lt_of_le_of_lt hM.hm hM.m.lt
  have m0 := hM.m.at 0 rfl
  have m1 := hM.m.at 1 rfl
  have cp := hM.at_p ht
  have fp := hM.p.free t
  have hti : (t : Int) < (tn : Int) := by omega
  have hpi : (s.pl t : Int) < ((T.getD t []).length : Int) := by omega
  have hA8i : (A : Int) < 8 := by omega
  have hE8i : (E : Int) < 8 := by omega
  have hplt : pb < w.heap.size := hM.p.lt
  have HM := Lib.hid hM
  have HR := Lib.hid hR
  have hpu : s.pl t < 4096 := by omega
  clear hM hR hx
  generalize hpp : s.pl t = p at *
  have HPP := Lib.hid hpp
  clear hpp
  generalize (T.getD t []).length = L at *
  go_enter Try.func29, Try.ntmps29
  go_upto_region 1 with fail
  go_region_held3 (fun w' => w'.cell? ⟨mb, 0, none⟩ = some (.slice (some ⟨b, off, none⟩) tn tc) ∧ w'.cell? ⟨mb, 1, none⟩ = some (.slice (some ⟨pb, 0, none⟩) tn tn) ∧ w'.cell? ⟨pb, t, none⟩ = some (.int .i64 (p : Nat)) ∧ w'.cell? ⟨b, off + t, none⟩ = some (.slice (some ⟨b2, off2, none⟩) L ct) ∧ w'.cell? ⟨b2, off2 + p * 4, none⟩ = some (.int .i64 6) ∧ w'.cell? ⟨b2, off2 + p * 4 + 1, none⟩ = some (.int .i64 A) ∧ w'.cell? ⟨b2, off2 + p * 4 + 2, none⟩ = some (.int .i64 E) ∧ w'.cell? ⟨b2, off2 + p * 4 + 3, none⟩ = some (.int .i64 N))
    (go_keep)
    (fail)
  have hp1 : ((p + 1 : Nat) : Int) = (p : Int) + 1 := by omega
  have hM0 := HM.out.setP ht (p + 1)
  rw [hp1] at hM0
  have hR1 := HR.out
  rw [if_neg (by decide), if_neg (by decide), if_neg (by decide), if_neg (by decide), if_neg (by decide), if_pos trivial] at hR1
  have HRB := Lib.hid HM.out.hr
  have HPB := Lib.hid HM.out.hp
  have HDB := Lib.hid HM.out.hd
  have hb0 : Below B w (w.setCell ⟨pb, t, none⟩ (.int .i64 ((p : Int) + 1))) := (Below.refl B w).setCell HM.out.hp _
  have hsz : (w.setCell ⟨pb, t, none⟩ (.int .i64 ((p : Int) + 1))).heap.size = w.heap.size := World.size_setCell _ _ _
  go_upto_region 18 with fail
  obtain ⟨W, hWe⟩ : ∃ W, W = ((w.setCell ⟨pb, t, none⟩ (.int .i64 ((p : Int) + 1))).alloc (Obj.cells #[.int .i64 6, .int .i64 A, .int .i64 E, .int .i64 N] 50)).drew := ⟨_, rfl⟩
  have hW : MAt B mb pb rb db (some ⟨b, off, none⟩) tn tc cv W ⟨s.places.set t (p + 1), s.regs, s.done, s.C, s.steps⟩ := by rw [hWe]; exact hM0.chg0 (((Chg.refl [] _).alloc _).drew)
  have hI : Blk W w.heap.size 50 #[.int .i64 6, .int .i64 A, .int .i64 E, .int .i64 N] := by rw [hWe]; exact (Blk.new' _ 50 _ hsz.symm).drew
  have HBW : Hid (Below B w W) := Lib.hid (by rw [hWe]; exact (hb0.alloc (by rw [hsz]; omega) _).drew)
  rw [← hWe]
  have hWd : MAt B mb pb rb db (some ⟨b, off, none⟩) tn tc cv W.drew ⟨s.places.set t (p + 1), s.regs, s.done, s.C, s.steps⟩ := hW.chg0 ((Chg.refl [] _).drew)
  clear hWe hM0 hb0 hsz hp1 m0 m1 cp fp c0 c1 c2 c3 cT
  have g1 : W.cell? ⟨w.heap.size, 1, none⟩ = some (.int .i64 A) := hI.at 1 rfl
  have g2 : W.cell? ⟨w.heap.size, 2, none⟩ = some (.int .i64 E) := hI.at 2 rfl
  have g3 : W.cell? ⟨w.heap.size, 3, none⟩ = some (.int .i64 N) := hI.at 3 rfl
  have m2 : W.cell? ⟨mb, 2, none⟩ = some cv := hW.m.at 2 rfl
  have m3 : W.cell? ⟨mb, 3, none⟩ = some (.slice (some ⟨rb, 0, none⟩) tn tn) := hW.m.at 3 rfl
  have cr := hW.at_r ht hA8
  have ce := hW.at_r ht hE8
  have fr := hW.r.free (t * 8 + A)
  obtain ⟨gc, cap, hcv, _, hgB, _, cc, f1⟩ := hW.own.at (j := N) hN
  subst hcv
  have hul := hW.rlt ht E
  have hrg : RS.rg ⟨s.places.set t (p + 1), s.regs, s.done, s.C, s.steps⟩ t = s.rg t := rfl
  have hrc : RS.C ⟨s.places.set t (p + 1), s.regs, s.done, s.C, s.steps⟩ = s.C := rfl
  rw [hrg] at cr ce hul
  rw [hrc] at m2 cc
  have hne : rb ≠ gc := fun e => own_ne hW.own.1 hW.r (by decide) (by rw [e]; rfl)
  have hmc : mb ≠ gc := fun e => own_ne hW.own.1 hW.m (by decide) (by rw [e]; rfl)
  have hic : w.heap.size ≠ gc := fun e => own_ne hW.own.1 hI (by decide) (by rw [e]; rfl)
  have HGB := Lib.hid hgB
  have HWd := Lib.hid (fun n => hW.chg0 ((Chg.refl [] W).drewN n))
  have hI1 := Lib.hid hI
  have hM1 := Lib.hid hW
  generalize (s.rg t).getD E 0 = y at ce hul hR1
  generalize (s.rg t).getD A 0 = x at cr hR1
  generalize s.C.getD N 0 = z at cc hR1
  clear hW hWd hI hrg hrc hgB
  by_cases hzx : z = x
  · subst hzx
    rw [if_pos rfl] at hR1
    subst hR1
    go_quiet (fail)
    go_upto_region 19 with fail
    (refine wp_region_still_tail 19 (by kernel_rfl) (by kernel_rfl) ?_; simp only [List.take_succ_cons, List.take_zero, List.drop_succ_cons, List.drop_zero]; change wpStill _ _ (World.drew _) _ _ _; (repeat still_step); refine wpStill_nil ?_; change wpList _ _ _ _ _ (World.drew _))
    go_wp2_with fail
    have hM2 : MAt B mb pb rb db (some ⟨b, off, none⟩) tn tc (.slice (some ⟨gc, 0, none⟩) s.C.length cap) ((W.drewN (nq + 1)).setCell ⟨gc, N, none⟩ (.int .u64 y)) ⟨s.places.set t (p + 1), s.regs, s.done, s.C.set N y, s.steps⟩ := (HWd.out (nq + 1)).setC (j := N) hN hul
    have HM2 := Lib.hid hM2
    have k3 : ((W.drewN (nq + 1)).setCell ⟨gc, N, none⟩ (.int .u64 y)).cell? ⟨mb, 3, none⟩ = some (.slice (some ⟨rb, 0, none⟩) tn tn) := hM2.m.at 3 rfl
    have k1 : ((W.drewN (nq + 1)).setCell ⟨gc, N, none⟩ (.int .u64 y)).cell? ⟨w.heap.size, 1, none⟩ = some (.int .i64 A) := ((hI1.out.drewN (nq + 1)).far hic _).at 1 rfl
    have fr2 := hM2.r.free (t * 8 + A)
    have ca2 := hM2.at_r ht hA8
    have hbw2 : Below B w ((W.drewN (nq + 1)).setCell ⟨gc, N, none⟩ (.int .u64 y)) := (below_drewN HBW.out (nq + 1)).setCell (p := ⟨gc, N, none⟩) HGB.out _
    have HB2 := Lib.hid hbw2
    go_upto_region 20 with fail
    have hgen : ∃ W2, W2 = (W.drewN (nq + 1)).setCell ⟨gc, N, none⟩ (.int .u64 y) := ⟨_, rfl⟩
    obtain ⟨W2, hW2⟩ := hgen
    rw [← hW2] at HM2 HB2 k3 k1 fr2 ca2 ⊢
    clear hM2 hbw2 hW2 g1 g2 g3 m2 m3 cr ce cc fr f1
    (refine wp_region_still_tail 10 (by kernel_rfl) (by kernel_rfl) ?_; simp only [List.take_succ_cons, List.take_zero, List.drop_succ_cons, List.drop_zero]; change wpStill _ _ (World.drew _) _ _ _; (repeat still_step); refine wpStill_nil ?_; change wpList _ _ _ _ _ (World.drew _))
    go_wp2_with fail
    go_ret
    exact ⟨rfl, (HM2.out.chg0 (Chg.refl [] _).drew).setR ht hA8 (v := 1) (by decide), HB2.out.drew.setCell (p := ⟨rb, t * 8 + A, none⟩) HRB.out _⟩
  · rw [if_neg hzx] at hR1
    subst hR1
    have hzi : ((z : Int) == (x : Int)) = false := beq_false_of_ne (by omega)
    have hzj : ¬ ((z : Int) = (x : Int)) := by omega
    go_quiet (fail)
    go_upto_region 21 with fail
    (refine wp_region_still_tail 10 (by kernel_rfl) (by kernel_rfl) ?_; simp only [List.take_succ_cons, List.take_zero, List.drop_succ_cons, List.drop_zero]; change wpStill _ _ (World.drew _) _ _ _; (repeat still_step); refine wpStill_nil ?_; change wpList _ _ _ _ _ (World.drew _))
    go_wp2_with fail
    go_ret
    exact ⟨rfl, (HWd.out (nq + 1)).setR ht hA8 (v := 0) (by decide), (below_drewN HBW.out (nq + 1)).setCell (p := ⟨rb, t * 8 + A, none⟩) HRB.out _⟩

set_option maxRecDepth 1000000 in
set_option maxHeartbeats 4000000 in
theorem do_k7 (w : World) (B D mb pb rb db : Nat) (ta : Option Addr) (tn tc : Nat) (cv : Value) (T : List (List Ins)) (s : RS) (t b off b2 off2 ct : Nat) (x : Ins) (hx : insR T s t = x) (hM : MAt B mb pb rb db ta tn tc cv w s) (hA : DoAt w D mb pb rb db ta tn tc cv T s t b off b2 off2 ct x) (hDB : D ≤ B) (ht : t < tn) (htn : tn ≤ 4096)
    (hp : s.pl t < (T.getD t []).length) (hl : (T.getD t []).length ≤ 4096) (ha : 0 ≤ x.a ∧ x.a ≤ 7) (hb : 0 ≤ x.b ∧ x.b ≤ 7) (hn : 0 ≤ x.n ∧ x.n ≤ 4096) (hk : x.k = 7) :
    Calls Try.prog 29 #[.pointer (some ⟨mb, 0, none⟩), .int .i64 t] w (DoPost B mb pb rb db ta tn tc cv w (doR T s t)) := by
  obtain ⟨xk, xa, xb, xn⟩ := x
  dsimp only at ha hb hk hn
  subst hk
  obtain ⟨A, rfl⟩ := Int.eq_ofNat_of_zero_le ha.1
  obtain ⟨E, rfl⟩ := Int.eq_ofNat_of_zero_le hb.1
  obtain ⟨N, rfl⟩ := Int.eq_ofNat_of_zero_le hn.1
  have hN : N ≤ 4096 := by omega
  have hA8 : A < 8 := by omega
  have hE8 : E < 8 := by omega
  obtain ⟨R, hR⟩ : ∃ R, R = doR T s t := ⟨_, rfl⟩
  rw [← hR]
  unfold doR at hR
  rw [hx] at hR
  simp only [Int.toNat_natCast] at hR
  obtain ⟨hta, hbD, cT, hb2D, c0, c1, c2, c3⟩ := hA
  subst hta
  dsimp only at c0 c1 c2 c3
  have hBw := Nat.lt_of_le_of_lt hM.hm hM.m.lt
  have m0 := hM.m.at 0 rfl
  have m1 := hM.m.at 1 rfl
  have cp := hM.at_p ht
  have fp := hM.p.free t
  have hti : (t : Int) < (tn : Int) := by omega
  have hpi : (s.pl t : Int) < ((T.getD t []).length : Int) := by omega
  have hA8i : (A : Int) < 8 := by omega
  have hE8i : (E : Int) < 8 := by omega
  have hplt : pb < w.heap.size := hM.p.lt
  have HM := Lib.hid hM
  have HR := Lib.hid hR
  have hpu : s.pl t < 4096 := by omega
  clear hM hR hx
  generalize hpp : s.pl t = p at *
  have HPP := Lib.hid hpp
  clear hpp
  generalize (T.getD t []).length = L at *
  go_enter Try.func29, Try.ntmps29
  go_upto_region 1 with fail
  go_region_held3 (fun w' => w'.cell? ⟨mb, 0, none⟩ = some (.slice (some ⟨b, off, none⟩) tn tc) ∧ w'.cell? ⟨mb, 1, none⟩ = some (.slice (some ⟨pb, 0, none⟩) tn tn) ∧ w'.cell? ⟨pb, t, none⟩ = some (.int .i64 (p : Nat)) ∧ w'.cell? ⟨b, off + t, none⟩ = some (.slice (some ⟨b2, off2, none⟩) L ct) ∧ w'.cell? ⟨b2, off2 + p * 4, none⟩ = some (.int .i64 7) ∧ w'.cell? ⟨b2, off2 + p * 4 + 1, none⟩ = some (.int .i64 A) ∧ w'.cell? ⟨b2, off2 + p * 4 + 2, none⟩ = some (.int .i64 E) ∧ w'.cell? ⟨b2, off2 + p * 4 + 3, none⟩ = some (.int .i64 N))
    (go_keep)
    (fail)
  have hp1 : ((p + 1 : Nat) : Int) = (p : Int) + 1 := by omega
  have hM0 := HM.out.setP ht (p + 1)
  rw [hp1] at hM0
  have hR1 := HR.out
  rw [if_neg (by decide), if_neg (by decide), if_neg (by decide), if_neg (by decide), if_neg (by decide), if_neg (by decide), if_pos trivial] at hR1
  have HRB := Lib.hid HM.out.hr
  have HPB := Lib.hid HM.out.hp
  have HDB := Lib.hid HM.out.hd
  have hb0 : Below B w (w.setCell ⟨pb, t, none⟩ (.int .i64 ((p : Int) + 1))) := (Below.refl B w).setCell HM.out.hp _
  have hsz : (w.setCell ⟨pb, t, none⟩ (.int .i64 ((p : Int) + 1))).heap.size = w.heap.size := World.size_setCell _ _ _
  go_upto_region 24 with fail
  obtain ⟨W, hWe⟩ : ∃ W, W = ((w.setCell ⟨pb, t, none⟩ (.int .i64 ((p : Int) + 1))).alloc (Obj.cells #[.int .i64 7, .int .i64 A, .int .i64 E, .int .i64 N] 50)).drew := ⟨_, rfl⟩
  have hW : MAt B mb pb rb db (some ⟨b, off, none⟩) tn tc cv W ⟨s.places.set t (p + 1), s.regs, s.done, s.C, s.steps⟩ := by rw [hWe]; exact hM0.chg0 (((Chg.refl [] _).alloc _).drew)
  have hI : Blk W w.heap.size 50 #[.int .i64 7, .int .i64 A, .int .i64 E, .int .i64 N] := by rw [hWe]; exact (Blk.new' _ 50 _ hsz.symm).drew
  have HBW : Hid (Below B w W) := Lib.hid (by rw [hWe]; exact (hb0.alloc (by rw [hsz]; omega) _).drew)
  rw [← hWe]
  have hWd : MAt B mb pb rb db (some ⟨b, off, none⟩) tn tc cv W.drew ⟨s.places.set t (p + 1), s.regs, s.done, s.C, s.steps⟩ := hW.chg0 ((Chg.refl [] _).drew)
  clear hWe hM0 hb0 hsz hp1 m0 m1 cp fp c0 c1 c2 c3 cT
  have f1 := hW.p.free t
  have cp := hW.at_p ht
  have g1 : W.cell? ⟨w.heap.size, 1, none⟩ = some (.int .i64 A) := hI.at 1 rfl
  have g3 : W.cell? ⟨w.heap.size, 3, none⟩ = some (.int .i64 N) := hI.at 3 rfl
  have m1 : W.cell? ⟨mb, 1, none⟩ = some (.slice (some ⟨pb, 0, none⟩) tn tn) := hW.m.at 1 rfl
  have m3 : W.cell? ⟨mb, 3, none⟩ = some (.slice (some ⟨rb, 0, none⟩) tn tn) := hW.m.at 3 rfl
  have cr := hW.at_r ht hA8
  have hrg : RS.rg ⟨s.places.set t (p + 1), s.regs, s.done, s.C, s.steps⟩ t = s.rg t := rfl
  rw [hrg] at cr
  have HWd := Lib.hid (fun n => hW.chg0 ((Chg.refl [] W).drewN n))
  generalize (s.rg t).getD A 0 = x at cr hR1
  clear hW hWd hI hrg
  by_cases hx0 : x = 0
  · subst hx0
    rw [if_pos rfl] at hR1
    subst hR1
    go_quiet (fail)
    go_upto_region 25 with fail
    (refine wp_region_still_tail 8 (by kernel_rfl) (by kernel_rfl) ?_; simp only [List.take_succ_cons, List.take_zero, List.drop_succ_cons, List.drop_zero]; change wpStill _ _ (World.drew _) _ _ _; (repeat still_step); refine wpStill_nil ?_; change wpList _ _ _ _ _ (World.drew _))
    go_wp2_with fail
    go_ret
    exact ⟨rfl, (HWd.out (nq + 1)).setP ht N, (below_drewN HBW.out (nq + 1)).setCell (p := ⟨pb, t, none⟩) HPB.out _⟩
  · rw [if_neg hx0] at hR1
    subst hR1
    have hxi : ((x : Int) == 0) = false := beq_false_of_ne (by omega)
    have hxj : ¬ ((x : Int) = 0) := by omega
    go_quiet (fail)
    go_wp2_with fail
    go_ret
    exact ⟨rfl, HWd.out nq, below_drewN HBW.out nq⟩

set_option maxRecDepth 1000000 in
set_option maxHeartbeats 4000000 in
theorem do_k8 (w : World) (B D mb pb rb db : Nat) (ta : Option Addr) (tn tc : Nat) (cv : Value) (T : List (List Ins)) (s : RS) (t b off b2 off2 ct : Nat) (x : Ins) (hx : insR T s t = x) (hM : MAt B mb pb rb db ta tn tc cv w s) (hA : DoAt w D mb pb rb db ta tn tc cv T s t b off b2 off2 ct x) (hDB : D ≤ B) (ht : t < tn) (htn : tn ≤ 4096)
    (hp : s.pl t < (T.getD t []).length) (hl : (T.getD t []).length ≤ 4096) (ha : 0 ≤ x.a ∧ x.a ≤ 7) (hb : 0 ≤ x.b ∧ x.b ≤ 7) (hk : x.k = 8) :
    Calls Try.prog 29 #[.pointer (some ⟨mb, 0, none⟩), .int .i64 t] w (DoPost B mb pb rb db ta tn tc cv w (doR T s t)) := by
  obtain ⟨xk, xa, xb, xn⟩ := x
  dsimp only at ha hb hk
  subst hk
  obtain ⟨A, rfl⟩ := Int.eq_ofNat_of_zero_le ha.1
  obtain ⟨E, rfl⟩ := Int.eq_ofNat_of_zero_le hb.1
  have hA8 : A < 8 := by omega
  have hE8 : E < 8 := by omega
  obtain ⟨R, hR⟩ : ∃ R, R = doR T s t := ⟨_, rfl⟩
  rw [← hR]
  unfold doR at hR
  rw [hx] at hR
  simp only [Int.toNat_natCast] at hR
  obtain ⟨hta, hbD, cT, hb2D, c0, c1, c2, c3⟩ := hA
  subst hta
  dsimp only at c0 c1 c2 c3
  have hBw := Nat.lt_of_le_of_lt hM.hm hM.m.lt
  have m0 := hM.m.at 0 rfl
  have m1 := hM.m.at 1 rfl
  have cp := hM.at_p ht
  have fp := hM.p.free t
  have hti : (t : Int) < (tn : Int) := by omega
  have hpi : (s.pl t : Int) < ((T.getD t []).length : Int) := by omega
  have hA8i : (A : Int) < 8 := by omega
  have hE8i : (E : Int) < 8 := by omega
  have hplt : pb < w.heap.size := hM.p.lt
  have HM := Lib.hid hM
  have HR := Lib.hid hR
  have hpu : s.pl t < 4096 := by omega
  clear hM hR hx
  generalize hpp : s.pl t = p at *
  have HPP := Lib.hid hpp
  clear hpp
  generalize (T.getD t []).length = L at *
  go_enter Try.func29, Try.ntmps29
  go_upto_region 1 with fail
  go_region_held3 (fun w' => w'.cell? ⟨mb, 0, none⟩ = some (.slice (some ⟨b, off, none⟩) tn tc) ∧ w'.cell? ⟨mb, 1, none⟩ = some (.slice (some ⟨pb, 0, none⟩) tn tn) ∧ w'.cell? ⟨pb, t, none⟩ = some (.int .i64 (p : Nat)) ∧ w'.cell? ⟨b, off + t, none⟩ = some (.slice (some ⟨b2, off2, none⟩) L ct) ∧ w'.cell? ⟨b2, off2 + p * 4, none⟩ = some (.int .i64 8) ∧ w'.cell? ⟨b2, off2 + p * 4 + 1, none⟩ = some (.int .i64 A) ∧ w'.cell? ⟨b2, off2 + p * 4 + 2, none⟩ = some (.int .i64 E) ∧ w'.cell? ⟨b2, off2 + p * 4 + 3, none⟩ = some (.int .i64 xn))
    (go_keep)
    (fail)
  have hp1 : ((p + 1 : Nat) : Int) = (p : Int) + 1 := by omega
  have hM0 := HM.out.setP ht (p + 1)
  rw [hp1] at hM0
  have hR1 := HR.out
  rw [if_neg (by decide), if_neg (by decide), if_neg (by decide), if_neg (by decide), if_neg (by decide), if_neg (by decide), if_neg (by decide)] at hR1
  have HRB := Lib.hid HM.out.hr
  have HPB := Lib.hid HM.out.hp
  have HDB := Lib.hid HM.out.hd
  have hb0 : Below B w (w.setCell ⟨pb, t, none⟩ (.int .i64 ((p : Int) + 1))) := (Below.refl B w).setCell HM.out.hp _
  have hsz : (w.setCell ⟨pb, t, none⟩ (.int .i64 ((p : Int) + 1))).heap.size = w.heap.size := World.size_setCell _ _ _
  go_upto_region 4 with fail
  obtain ⟨W, hWe⟩ : ∃ W, W = ((w.setCell ⟨pb, t, none⟩ (.int .i64 ((p : Int) + 1))).alloc (Obj.cells #[.int .i64 8, .int .i64 A, .int .i64 E, .int .i64 xn] 50)).drew := ⟨_, rfl⟩
  have hW : MAt B mb pb rb db (some ⟨b, off, none⟩) tn tc cv W ⟨s.places.set t (p + 1), s.regs, s.done, s.C, s.steps⟩ := by rw [hWe]; exact hM0.chg0 (((Chg.refl [] _).alloc _).drew)
  have hI : Blk W w.heap.size 50 #[.int .i64 8, .int .i64 A, .int .i64 E, .int .i64 xn] := by rw [hWe]; exact (Blk.new' _ 50 _ hsz.symm).drew
  have HBW : Hid (Below B w W) := Lib.hid (by rw [hWe]; exact (hb0.alloc (by rw [hsz]; omega) _).drew)
  rw [← hWe]
  have hWd : MAt B mb pb rb db (some ⟨b, off, none⟩) tn tc cv W.drew ⟨s.places.set t (p + 1), s.regs, s.done, s.C, s.steps⟩ := hW.chg0 ((Chg.refl [] _).drew)
  clear hWe hM0 hb0 hsz hp1 m0 m1 cp fp c0 c1 c2 c3 cT
  have f1 := hW.d.free t
  have cd := hW.at_d ht
  subst hR1
  have m4 : W.cell? ⟨mb, 4, none⟩ = some (.slice (some ⟨db, 0, none⟩) tn tn) := hW.m.at 4 rfl
  have HW := Lib.hid hW
  clear hW hWd hI
  go_wp2_with fail
  go_ret
  exact ⟨rfl, HW.out.setD ht true, HBW.out.setCell HDB.out _⟩

theorem do_any (w : World) (B D mb pb rb db : Nat) (ta : Option Addr) (tn tc : Nat) (cv : Value) (T : List (List Ins)) (s : RS) (t : Nat) (hM : MAt B mb pb rb db ta tn tc cv w s) (hT : T.length = tn) (hrd : RdT w D ta T) (hDB : D ≤ B) (ht : t < tn) (htn : tn ≤ 4096)
    (hp : s.pl t < (T.getD t []).length) (hl : (T.getD t []).length ≤ 4096) (hCl : s.C.length ≤ 4096) (hok : okI (insR T s t) (T.getD t []).length s.C.length = true) :
    Calls Try.prog 29 #[.pointer (some ⟨mb, 0, none⟩), .int .i64 t] w (DoPost B mb pb rb db ta tn tc cv w (doR T s t)) := by
  obtain ⟨b, off, b2, off2, ct, hA⟩ := doAt_of hT hrd ht hp
  obtain ⟨ha, hb, h⟩ := okI_cases hok
  rcases h with h | h | h | h | ⟨h, hn⟩ | ⟨h, hn⟩ | ⟨h, hn⟩ | ⟨h, hn⟩
  · exact do_k1 w B D mb pb rb db ta tn tc cv T s t b off b2 off2 ct _ rfl hM hA hDB ht htn hp hl ha hb h
  · exact do_k2 w B D mb pb rb db ta tn tc cv T s t b off b2 off2 ct _ rfl hM hA hDB ht htn hp hl ha hb h
  · exact do_k3 w B D mb pb rb db ta tn tc cv T s t b off b2 off2 ct _ rfl hM hA hDB ht htn hp hl ha hb h
  · exact do_k8 w B D mb pb rb db ta tn tc cv T s t b off b2 off2 ct _ rfl hM hA hDB ht htn hp hl ha hb h
  · exact do_k4 w B D mb pb rb db ta tn tc cv T s t b off b2 off2 ct _ rfl hM hA hDB ht htn hp hl ha hb hn hCl h
  · exact do_k5 w B D mb pb rb db ta tn tc cv T s t b off b2 off2 ct _ rfl hM hA hDB ht htn hp hl ha hb hn hCl h
  · exact do_k6 w B D mb pb rb db ta tn tc cv T s t b off b2 off2 ct _ rfl hM hA hDB ht htn hp hl ha hb hn hCl h
  · exact do_k7 w B D mb pb rb db ta tn tc cv T s t b off b2 off2 ct _ rfl hM hA hDB ht htn hp hl ha hb ⟨hn.1, by omega⟩ h

end Go.Proofs.Ytlcgighhiacnpaa
