/- The law's step: a call of both nets, which tell the same; conditions: the two calls' contracts tell one result. -/
import Derived.Test.YtnbjbjpfleiogaaStBad
import Derived.Deep.RegionHeld3
namespace Go.Proofs.Ytnbjbjpfleiogaa
open Go.RowKit

/-- A row's new block is its old one, or new. -/
def Fresh (w : World) (v v' : Value) : Prop := ∀ g, v'.ownBlock = some g → v.ownBlock = some g ∨ w.heap.size ≤ g
theorem Fresh.refl (w : World) (v : Value) : Fresh w v v := fun _ h => .inl h

structure P2 (w0 : World) (nb rb : Nat) (v0 u0 : Value) (w : World) (v : Value) (ps : List Pipe) (n : Nat) (u : Value) (ys : List Way) (m : Nat) (ae : Array Value) (be : Nat) : Prop where
  N : IsNet w nb v ps n
  R : IsRef w rb u ys m
  E : Blk w be 49 ae
  c : Chg (nb :: rb :: (v0.ownBlock.toList ++ u0.ownBlock.toList)) w0 w
  fv : Fresh w0 v0 v
  fu : Fresh w0 u0 u

theorem own_blk {w : World} {base : Nat} {e : TypeId} {size n g : Nat} {v : Value} {xs : List Value} (h : w.ownsRow base e size v n xs) (hg : v.ownBlock = some g) : ∃ cur, Blk w g e cur := by
  rcases h.2 with ⟨rfl, _⟩ | ⟨g', cap, cur, rfl, _, hg', _⟩
  · cases hg
  · injection hg with hg; subst hg; exact ⟨cur, hg'⟩

section
variable {w0 w w' : World} {nb rb : Nat} {v0 u0 v v' u u' : Value} {ps ps' : List Pipe} {n n' : Nat} {ys ys' : List Way} {m m' : Nat} {ae : Array Value} {be : Nat}
theorem P2.net (h : P2 w0 nb rb v0 u0 w v ps n u ys m ae be) (i : IsNet w' nb v' ps' n') (hc : Chg (nb :: v.ownBlock.toList) w w') (f : Fresh w v v') : P2 w0 nb rb v0 u0 w' v' ps' n' u ys m ae be := by
  have off : ∀ {g : Nat} {t : TypeId} {cs : Array Value}, Blk w g t cs → 53 ≠ t → 56 ≠ t → g ∉ nb :: v.ownBlock.toList := fun hb h1 h2 hm => by
    rcases List.mem_cons.1 hm with rfl | hm
    · exact h.N.net.ne hb h1 rfl
    · exact own_ne h.N.row hb h2 (Option.mem_toList.1 hm).symm
  refine ⟨i, h.R.chg hc (off h.R.net (by decide) (by decide)) (fun g hg => ?_), h.E.chg hc (off h.E (by decide) (by decide)), h.c.trans hc (fun q hq => ?_), fun g hg => ?_, h.fu⟩
  · obtain ⟨cur, hb⟩ := own_blk h.R.row hg
    exact off hb (by decide) (by decide)
  · rcases List.mem_cons.1 hq with rfl | hq
    · exact .inl (by simp)
    · rcases h.fv q (Option.mem_toList.1 hq) with h1 | h1
      · exact .inl (by simp [h1])
      · exact .inr h1
  · rcases f g hg with h1 | h1
    · exact h.fv g h1
    · exact .inr (Nat.le_trans h.c.size h1)
theorem P2.ref (h : P2 w0 nb rb v0 u0 w v ps n u ys m ae be) (i : IsRef w' rb u' ys' m') (hc : Chg (rb :: u.ownBlock.toList) w w') (f : Fresh w u u') : P2 w0 nb rb v0 u0 w' v ps n u' ys' m' ae be := by
  have off : ∀ {g : Nat} {t : TypeId} {cs : Array Value}, Blk w g t cs → 62 ≠ t → 65 ≠ t → g ∉ rb :: u.ownBlock.toList := fun hb h1 h2 hm => by
    rcases List.mem_cons.1 hm with rfl | hm
    · exact h.R.net.ne hb h1 rfl
    · exact own_ne h.R.row hb h2 (Option.mem_toList.1 hm).symm
  refine ⟨h.N.chg hc (off h.N.net (by decide) (by decide)) (fun g hg => ?_), i, h.E.chg hc (off h.E (by decide) (by decide)), h.c.trans hc (fun q hq => ?_), h.fv, fun g hg => ?_⟩
  · obtain ⟨cur, hb⟩ := own_blk h.N.row hg
    exact off hb (by decide) (by decide)
  · rcases List.mem_cons.1 hq with rfl | hq
    · exact .inl (by simp)
    · rcases h.fu q (Option.mem_toList.1 hq) with h1 | h1
      · exact .inl (by simp [h1])
      · exact .inr h1
  · rcases f g hg with h1 | h1
    · exact h.fu g h1
    · exact .inr (Nat.le_trans h.c.size h1)
theorem P2.drew (h : P2 w0 nb rb v0 u0 w v ps n u ys m ae be) : P2 w0 nb rb v0 u0 w.drew v ps n u ys m ae be :=
  ⟨⟨h.N.net, h.N.row⟩, ⟨h.R.net, h.R.row⟩, h.E, h.c.drew, h.fv, h.fu⟩
end

/-- What a call leaves of a net: the result, the net, what may have changed. -/
def NetPost (nb : Nat) (v : Value) (ps' : List Pipe) (n' : Nat) (r : Value) (w : World) (e : Ending) (w' : World) : Prop :=
  e = .returned r ∧ ∃ v', IsNet w' nb v' ps' n' ∧ Chg (nb :: v.ownBlock.toList) w w' ∧ Fresh w v v'
def RefPost (nb : Nat) (v : Value) (ys' : List Way) (n' : Nat) (r : Value) (w : World) (e : Ending) (w' : World) : Prop :=
  e = .returned r ∧ ∃ v', IsRef w' nb v' ys' n' ∧ Chg (nb :: v.ownBlock.toList) w w' ∧ Fresh w v v'
def StepPost (nb rb : Nat) (v0 u0 : Value) (ps' : List Pipe) (ys' : List Way) (n' : Nat) (w0 : World) (e : Ending) (w' : World) : Prop :=
  e = .returned (.bool true) ∧ ∃ v' u', IsNet w' nb v' ps' n' ∧ IsRef w' rb u' ys' n' ∧ Chg (nb :: rb :: (v0.ownBlock.toList ++ u0.ownBlock.toList)) w0 w' ∧ Fresh w0 v0 v' ∧ Fresh w0 u0 u'

section
variable (w : World) (nb rb : Nat) (v u : Value) (ps ps' : List Pipe) (ys ys' : List Way) (n n' : Nat) (hN0 : IsNet w nb v ps n) (hR0 : IsRef w rb u ys n) (kd cn sd nn : Int) (d : ByteArray)
include hN0 hR0

set_option maxRecDepth 100000 in
set_option maxHeartbeats 2000000 in
theorem step_0 (hm : kd % 7 = 0) (a b : Int) (hN : ∀ W, IsNet W nb v ps n → Calls Try.prog 10 #[.pointer (some ⟨nb, 0, none⟩)] W (NetPost nb v ps' n' (.tuple #[.int .i64 a, .int .i64 b]) W))
    (hR : ∀ W, IsRef W rb u ys n → Calls Try.prog 22 #[.pointer (some ⟨rb, 0, none⟩)] W (RefPost rb u ys' n' (.tuple #[.int .i64 a, .int .i64 b]) W)) :
    Calls Try.prog 19 #[.pointer (some ⟨nb, 0, none⟩), .pointer (some ⟨rb, 0, none⟩), .agg #[.int .i64 kd, .int .i64 cn, .int .i64 sd, .int .i64 nn, .string d]] w (StepPost nb rb v u ps' ys' n' w) := by
  have P0 : P2 w nb rb v u (w.alloc (.cells #[.int .i64 kd, .int .i64 cn, .int .i64 sd, .int .i64 nn, .string d] 49)) v ps n u ys n #[.int .i64 kd, .int .i64 cn, .int .i64 sd, .int .i64 nn, .string d] w.heap.size :=
    ⟨hN0.chg ((Chg.refl [] w).alloc _) (by simp) (by simp), hR0.new _, Blk.new _ _ _, (Chg.refl _ w).alloc _, Fresh.refl _ _, Fresh.refl _ _⟩
  have hA := fun W => among_any kd 7 W (by omega) (by omega)
  simp only [hm] at hA
  have p0 := P0.E.at 0 rfl
  clear hN0 hR0
  go_enter Try.func19, Try.ntmps19
  go_wp2_with (first
    | (go_at_call 11; refine (hA _).mono ?_; rintro e w' ⟨rfl, rfl⟩)
    | (go_at_call 10; refine (hN _ P0.N).mono ?_; rintro e w1 ⟨rfl, v1, i1, c1, f1⟩; have PN := P0.net i1 c1 f1)
    | (go_at_call 22; refine (hR _ PN.R).mono ?_; rintro e w2 ⟨rfl, u1, i2, c2, f2⟩; have P3 := PN.ref i2 c2 f2))
  go_ret
  exact ⟨by simp, _, _, P3.N, P3.R, P3.c, P3.fv, P3.fu⟩

set_option maxRecDepth 100000 in
set_option maxHeartbeats 2000000 in
theorem step_1 (hm : kd % 7 = 1) (a : Int) (hN : ∀ W, IsNet W nb v ps n → Calls Try.prog 12 #[.pointer (some ⟨nb, 0, none⟩), .int .i64 cn, .int .i64 sd, .string d] W (NetPost nb v ps' n' (.int .i64 a) W))
    (hR : ∀ W, IsRef W rb u ys n → Calls Try.prog 23 #[.pointer (some ⟨rb, 0, none⟩), .int .i64 cn, .int .i64 sd, .string d] W (RefPost rb u ys' n' (.int .i64 a) W)) :
    Calls Try.prog 19 #[.pointer (some ⟨nb, 0, none⟩), .pointer (some ⟨rb, 0, none⟩), .agg #[.int .i64 kd, .int .i64 cn, .int .i64 sd, .int .i64 nn, .string d]] w (StepPost nb rb v u ps' ys' n' w) := by
  have P0 : P2 w nb rb v u (w.alloc (.cells #[.int .i64 kd, .int .i64 cn, .int .i64 sd, .int .i64 nn, .string d] 49)) v ps n u ys n #[.int .i64 kd, .int .i64 cn, .int .i64 sd, .int .i64 nn, .string d] w.heap.size :=
    ⟨hN0.chg ((Chg.refl [] w).alloc _) (by simp) (by simp), hR0.new _, Blk.new _ _ _, (Chg.refl _ w).alloc _, Fresh.refl _ _, Fresh.refl _ _⟩
  have hA := fun W => among_any kd 7 W (by omega) (by omega)
  simp only [hm] at hA
  have p0 := P0.E.at 0 rfl
  have p1 := P0.E.at 1 rfl
  have p2 := P0.E.at 2 rfl
  have p4 := P0.E.at 4 rfl
  clear hN0 hR0
  go_enter Try.func19, Try.ntmps19
  go_upto_region 7 with (go_at_call 11; refine (hA _).mono ?_; rintro e w' ⟨rfl, rfl⟩)
  have PD := P0.drew
  go_region_held3 (fun w' => w'.cell? ⟨w.heap.size, 1, none⟩ = some (.int .i64 cn) ∧ w'.cell? ⟨w.heap.size, 2, none⟩ = some (.int .i64 sd) ∧ w'.cell? ⟨w.heap.size, 4, none⟩ = some (.string d)) (first | exact ⟨P3.E.at 1 rfl, P3.E.at 2 rfl, P3.E.at 4 rfl⟩ | exact ⟨PN.E.at 1 rfl, PN.E.at 2 rfl, PN.E.at 4 rfl⟩ | exact ⟨PR.E.at 1 rfl, PR.E.at 2 rfl, PR.E.at 4 rfl⟩ | exact ⟨PD.E.at 1 rfl, PD.E.at 2 rfl, PD.E.at 4 rfl⟩)
    (first
    | (go_at_call 12; refine (hN _ PR.N).mono ?_; rintro e w2 ⟨rfl, v1, i1, c1, f1⟩; have P3 := PR.net i1 c1 f1)
    | (go_at_call 23; refine (hR _ PN.R).mono ?_; rintro e w2 ⟨rfl, u1, i2, c2, f2⟩; have P3 := PN.ref i2 c2 f2)
    | (go_at_call 12; refine (hN _ PD.N).mono ?_; rintro e w1 ⟨rfl, v1, i1, c1, f1⟩; have PN := PD.net i1 c1 f1)
    | (go_at_call 23; refine (hR _ PD.R).mono ?_; rintro e w1 ⟨rfl, u1, i2, c2, f2⟩; have PR := PD.ref i2 c2 f2))
  all_goals
    go_wp2_with fail
    go_ret
    exact ⟨by simp, _, _, P3.N, P3.R, P3.c, P3.fv, P3.fu⟩

set_option maxRecDepth 100000 in
set_option maxHeartbeats 2000000 in
theorem step_2 (hm : kd % 7 = 2) (a b : Int) (hN : ∀ W, IsNet W nb v ps n → Calls Try.prog 13 #[.pointer (some ⟨nb, 0, none⟩), .int .i64 cn, .int .i64 sd, .int .i64 nn] W (NetPost nb v ps' n' (.tuple #[.int .i64 a, .int .i64 b]) W))
    (hR : ∀ W, IsRef W rb u ys n → Calls Try.prog 24 #[.pointer (some ⟨rb, 0, none⟩), .int .i64 cn, .int .i64 sd, .int .i64 nn] W (RefPost rb u ys' n' (.tuple #[.int .i64 a, .int .i64 b]) W)) :
    Calls Try.prog 19 #[.pointer (some ⟨nb, 0, none⟩), .pointer (some ⟨rb, 0, none⟩), .agg #[.int .i64 kd, .int .i64 cn, .int .i64 sd, .int .i64 nn, .string d]] w (StepPost nb rb v u ps' ys' n' w) := by
  have P0 : P2 w nb rb v u (w.alloc (.cells #[.int .i64 kd, .int .i64 cn, .int .i64 sd, .int .i64 nn, .string d] 49)) v ps n u ys n #[.int .i64 kd, .int .i64 cn, .int .i64 sd, .int .i64 nn, .string d] w.heap.size :=
    ⟨hN0.chg ((Chg.refl [] w).alloc _) (by simp) (by simp), hR0.new _, Blk.new _ _ _, (Chg.refl _ w).alloc _, Fresh.refl _ _, Fresh.refl _ _⟩
  have hA := fun W => among_any kd 7 W (by omega) (by omega)
  simp only [hm] at hA
  have p0 := P0.E.at 0 rfl
  have p1 := P0.E.at 1 rfl
  have p2 := P0.E.at 2 rfl
  have p3 := P0.E.at 3 rfl
  clear hN0 hR0
  go_enter Try.func19, Try.ntmps19
  go_wp2_with (first
    | (go_at_call 11; refine (hA _).mono ?_; rintro e w' ⟨rfl, rfl⟩)
    | (go_at_call 13; refine (hN _ P0.N).mono ?_; rintro e w1 ⟨rfl, v1, i1, c1, f1⟩; have PN := P0.net i1 c1 f1; have d1 := PN.E.at 1 rfl; have d2 := PN.E.at 2 rfl; have d3 := PN.E.at 3 rfl)
    | (go_at_call 24; refine (hR _ PN.R).mono ?_; rintro e w2 ⟨rfl, u1, i2, c2, f2⟩; have P3 := PN.ref i2 c2 f2))
  go_ret
  exact ⟨by simp, _, _, P3.N, P3.R, P3.c, P3.fv, P3.fu⟩

set_option maxRecDepth 100000 in
set_option maxHeartbeats 2000000 in
theorem step_3 (hm : kd % 7 = 3) (a : ByteArray) (b : Int) (hN : ∀ W, IsNet W nb v ps n → Calls Try.prog 14 #[.pointer (some ⟨nb, 0, none⟩), .int .i64 cn, .int .i64 sd, .int .i64 nn] W (NetPost nb v ps' n' (.tuple #[.string a, .int .i64 b]) W))
    (hR : ∀ W, IsRef W rb u ys n → Calls Try.prog 25 #[.pointer (some ⟨rb, 0, none⟩), .int .i64 cn, .int .i64 sd, .int .i64 nn] W (RefPost rb u ys' n' (.tuple #[.string a, .int .i64 b]) W)) :
    Calls Try.prog 19 #[.pointer (some ⟨nb, 0, none⟩), .pointer (some ⟨rb, 0, none⟩), .agg #[.int .i64 kd, .int .i64 cn, .int .i64 sd, .int .i64 nn, .string d]] w (StepPost nb rb v u ps' ys' n' w) := by
  have P0 : P2 w nb rb v u (w.alloc (.cells #[.int .i64 kd, .int .i64 cn, .int .i64 sd, .int .i64 nn, .string d] 49)) v ps n u ys n #[.int .i64 kd, .int .i64 cn, .int .i64 sd, .int .i64 nn, .string d] w.heap.size :=
    ⟨hN0.chg ((Chg.refl [] w).alloc _) (by simp) (by simp), hR0.new _, Blk.new _ _ _, (Chg.refl _ w).alloc _, Fresh.refl _ _, Fresh.refl _ _⟩
  have hA := fun W => among_any kd 7 W (by omega) (by omega)
  simp only [hm] at hA
  have p0 := P0.E.at 0 rfl
  have p1 := P0.E.at 1 rfl
  have p2 := P0.E.at 2 rfl
  have p3 := P0.E.at 3 rfl
  clear hN0 hR0
  go_enter Try.func19, Try.ntmps19
  go_wp2_with (first
    | (go_at_call 11; refine (hA _).mono ?_; rintro e w' ⟨rfl, rfl⟩)
    | (go_at_call 14; refine (hN _ P0.N).mono ?_; rintro e w1 ⟨rfl, v1, i1, c1, f1⟩; have PN := P0.net i1 c1 f1; have d1 := PN.E.at 1 rfl; have d2 := PN.E.at 2 rfl; have d3 := PN.E.at 3 rfl)
    | (go_at_call 25; refine (hR _ PN.R).mono ?_; rintro e w2 ⟨rfl, u1, i2, c2, f2⟩; have P3 := PN.ref i2 c2 f2))
  go_ret
  exact ⟨by simp, _, _, P3.N, P3.R, P3.c, P3.fv, P3.fu⟩

set_option maxRecDepth 100000 in
set_option maxHeartbeats 2000000 in
theorem step_4 (hm : kd % 7 = 4) (a : Int) (hN : ∀ W, IsNet W nb v ps n → Calls Try.prog 16 #[.pointer (some ⟨nb, 0, none⟩), .int .i64 cn, .int .i64 sd] W (NetPost nb v ps' n' (.int .i64 a) W))
    (hR : ∀ W, IsRef W rb u ys n → Calls Try.prog 26 #[.pointer (some ⟨rb, 0, none⟩), .int .i64 cn, .int .i64 sd] W (RefPost rb u ys' n' (.int .i64 a) W)) :
    Calls Try.prog 19 #[.pointer (some ⟨nb, 0, none⟩), .pointer (some ⟨rb, 0, none⟩), .agg #[.int .i64 kd, .int .i64 cn, .int .i64 sd, .int .i64 nn, .string d]] w (StepPost nb rb v u ps' ys' n' w) := by
  have P0 : P2 w nb rb v u (w.alloc (.cells #[.int .i64 kd, .int .i64 cn, .int .i64 sd, .int .i64 nn, .string d] 49)) v ps n u ys n #[.int .i64 kd, .int .i64 cn, .int .i64 sd, .int .i64 nn, .string d] w.heap.size :=
    ⟨hN0.chg ((Chg.refl [] w).alloc _) (by simp) (by simp), hR0.new _, Blk.new _ _ _, (Chg.refl _ w).alloc _, Fresh.refl _ _, Fresh.refl _ _⟩
  have hA := fun W => among_any kd 7 W (by omega) (by omega)
  simp only [hm] at hA
  have p0 := P0.E.at 0 rfl
  have p1 := P0.E.at 1 rfl
  have p2 := P0.E.at 2 rfl
  clear hN0 hR0
  go_enter Try.func19, Try.ntmps19
  go_upto_region 17 with (go_at_call 11; refine (hA _).mono ?_; rintro e w' ⟨rfl, rfl⟩)
  have PD := P0.drew
  go_region_held3 (fun w' => w'.cell? ⟨w.heap.size, 1, none⟩ = some (.int .i64 cn) ∧ w'.cell? ⟨w.heap.size, 2, none⟩ = some (.int .i64 sd)) (first | exact ⟨P3.E.at 1 rfl, P3.E.at 2 rfl⟩ | exact ⟨PN.E.at 1 rfl, PN.E.at 2 rfl⟩ | exact ⟨PR.E.at 1 rfl, PR.E.at 2 rfl⟩ | exact ⟨PD.E.at 1 rfl, PD.E.at 2 rfl⟩)
    (first
    | (go_at_call 16; refine (hN _ PR.N).mono ?_; rintro e w2 ⟨rfl, v1, i1, c1, f1⟩; have P3 := PR.net i1 c1 f1)
    | (go_at_call 26; refine (hR _ PN.R).mono ?_; rintro e w2 ⟨rfl, u1, i2, c2, f2⟩; have P3 := PN.ref i2 c2 f2)
    | (go_at_call 16; refine (hN _ PD.N).mono ?_; rintro e w1 ⟨rfl, v1, i1, c1, f1⟩; have PN := PD.net i1 c1 f1)
    | (go_at_call 26; refine (hR _ PD.R).mono ?_; rintro e w1 ⟨rfl, u1, i2, c2, f2⟩; have PR := PD.ref i2 c2 f2))
  all_goals
    go_wp2_with fail
    go_ret
    exact ⟨by simp, _, _, P3.N, P3.R, P3.c, P3.fv, P3.fu⟩

set_option maxRecDepth 100000 in
set_option maxHeartbeats 2000000 in
theorem step_5 (hm : kd % 7 = 5) (a : Bool) (b : Int) (hN : ∀ W, IsNet W nb v ps n → Calls Try.prog 17 #[.pointer (some ⟨nb, 0, none⟩), .int .i64 cn, .int .i64 sd] W (NetPost nb v ps' n' (.tuple #[.bool a, .int .i64 b]) W))
    (hR : ∀ W, IsRef W rb u ys n → Calls Try.prog 27 #[.pointer (some ⟨rb, 0, none⟩), .int .i64 cn, .int .i64 sd] W (RefPost rb u ys' n' (.tuple #[.bool a, .int .i64 b]) W)) :
    Calls Try.prog 19 #[.pointer (some ⟨nb, 0, none⟩), .pointer (some ⟨rb, 0, none⟩), .agg #[.int .i64 kd, .int .i64 cn, .int .i64 sd, .int .i64 nn, .string d]] w (StepPost nb rb v u ps' ys' n' w) := by
  have P0 : P2 w nb rb v u (w.alloc (.cells #[.int .i64 kd, .int .i64 cn, .int .i64 sd, .int .i64 nn, .string d] 49)) v ps n u ys n #[.int .i64 kd, .int .i64 cn, .int .i64 sd, .int .i64 nn, .string d] w.heap.size :=
    ⟨hN0.chg ((Chg.refl [] w).alloc _) (by simp) (by simp), hR0.new _, Blk.new _ _ _, (Chg.refl _ w).alloc _, Fresh.refl _ _, Fresh.refl _ _⟩
  have hA := fun W => among_any kd 7 W (by omega) (by omega)
  simp only [hm] at hA
  have p0 := P0.E.at 0 rfl
  have p1 := P0.E.at 1 rfl
  have p2 := P0.E.at 2 rfl
  clear hN0 hR0
  go_enter Try.func19, Try.ntmps19
  go_wp2_with (first
    | (go_at_call 11; refine (hA _).mono ?_; rintro e w' ⟨rfl, rfl⟩)
    | (go_at_call 17; refine (hN _ P0.N).mono ?_; rintro e w1 ⟨rfl, v1, i1, c1, f1⟩; have PN := P0.net i1 c1 f1; have d1 := PN.E.at 1 rfl; have d2 := PN.E.at 2 rfl)
    | (go_at_call 27; refine (hR _ PN.R).mono ?_; rintro e w2 ⟨rfl, u1, i2, c2, f2⟩; have P3 := PN.ref i2 c2 f2))
  go_ret
  exact ⟨by simp, _, _, P3.N, P3.R, P3.c, P3.fv, P3.fu⟩

set_option maxRecDepth 100000 in
set_option maxHeartbeats 2000000 in
theorem step_6 (hm : kd % 7 = 6) (a b c : Int) (hN : ∀ W, IsNet W nb v ps n → Calls Try.prog 15 #[.pointer (some ⟨nb, 0, none⟩), .int .i64 cn, .int .i64 sd] W (NetPost nb v ps' n' (.tuple #[.int .i64 a, .int .i64 b, .int .i64 c]) W))
    (hR : ∀ W, IsRef W rb u ys n → Calls Try.prog 28 #[.pointer (some ⟨rb, 0, none⟩), .int .i64 cn, .int .i64 sd] W (RefPost rb u ys' n' (.tuple #[.int .i64 a, .int .i64 b, .int .i64 c]) W)) :
    Calls Try.prog 19 #[.pointer (some ⟨nb, 0, none⟩), .pointer (some ⟨rb, 0, none⟩), .agg #[.int .i64 kd, .int .i64 cn, .int .i64 sd, .int .i64 nn, .string d]] w (StepPost nb rb v u ps' ys' n' w) := by
  have P0 : P2 w nb rb v u (w.alloc (.cells #[.int .i64 kd, .int .i64 cn, .int .i64 sd, .int .i64 nn, .string d] 49)) v ps n u ys n #[.int .i64 kd, .int .i64 cn, .int .i64 sd, .int .i64 nn, .string d] w.heap.size :=
    ⟨hN0.chg ((Chg.refl [] w).alloc _) (by simp) (by simp), hR0.new _, Blk.new _ _ _, (Chg.refl _ w).alloc _, Fresh.refl _ _, Fresh.refl _ _⟩
  have hA := fun W => among_any kd 7 W (by omega) (by omega)
  simp only [hm] at hA
  have p0 := P0.E.at 0 rfl
  have p1 := P0.E.at 1 rfl
  have p2 := P0.E.at 2 rfl
  clear hN0 hR0
  go_enter Try.func19, Try.ntmps19
  go_wp2_with (first
    | (go_at_call 11; refine (hA _).mono ?_; rintro e w' ⟨rfl, rfl⟩)
    | (go_at_call 15; refine (hN _ P0.N).mono ?_; rintro e w1 ⟨rfl, v1, i1, c1, f1⟩; have PN := P0.net i1 c1 f1; have d1 := PN.E.at 1 rfl; have d2 := PN.E.at 2 rfl)
    | (go_at_call 28; refine (hR _ PN.R).mono ?_; rintro e w2 ⟨rfl, u1, i2, c2, f2⟩; have P3 := PN.ref i2 c2 f2))
  go_ret
  exact ⟨by simp, _, _, P3.N, P3.R, P3.c, P3.fv, P3.fu⟩
end

end Go.Proofs.Ytnbjbjpfleiogaa
