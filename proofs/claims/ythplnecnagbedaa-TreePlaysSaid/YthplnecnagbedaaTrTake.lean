/- What a scan does at a key: the closure that puts it, and its value, behind what it has; conditions: the leaf lies in memory, the rows are the scan's own. -/
import Derived.Test.YthplnecnagbedaaTrIter
import Derived.Deep.RegionLaw
import Derived.Deep.AppendLies
namespace Go.Proofs.Ythplnecnagbedaa
open Go.RowKit

theorem Try.underlying62' : Try.prog.underlying 62 = some (.slice 3) := by kernel_rfl
theorem Try.info3' : (Try.prog.info? 3).map (fun i => (i.zero, i.size, i.bytes)) = some (some (.int .i64 0), 1, 8) := by kernel_rfl
/-- Two variables that hold slices, and what these own now. -/
structure TwoS (n0 k8 k9 : Nat) (s8 s9 : Value) (W : World) (v8 : Value) (m8 : Nat) (x8 : List Value) (v9 : Value) (m9 : Nat) (x9 : List Value) : Prop where
  b8 : Blk W k8 44 #[s8]
  b9 : Blk W k9 62 #[s9]
  o8 : W.ownsRow n0 9 1 v8 m8 x8
  o9 : W.ownsRow n0 3 1 v9 m9 x9
  sz : n0 ≤ W.heap.size
section
variable {n0 k8 k9 m8 m9 : Nat} {s8 s9 v8 v9 : Value} {x8 x9 : List Value} {W W' : World}
theorem TwoS.alloc (h : TwoS n0 k8 k9 s8 s9 W v8 m8 x8 v9 m9 x9) (o : Obj) : TwoS n0 k8 k9 s8 s9 (W.alloc o) v8 m8 x8 v9 m9 x9 :=
  ⟨h.b8.alloc o, h.b9.alloc o, own_chg h.o8 ((Chg.refl [] W).alloc o) (by simp), own_chg h.o9 ((Chg.refl [] W).alloc o) (by simp), Nat.le_trans h.sz (by simp)⟩
theorem TwoS.drew (h : TwoS n0 k8 k9 s8 s9 W v8 m8 x8 v9 m9 x9) : TwoS n0 k8 k9 s8 s9 W.drew v8 m8 x8 v9 m9 x9 := ⟨h.b8, h.b9, h.o8, h.o9, h.sz⟩
theorem TwoS.app8 (h : TwoS n0 k8 k9 s8 s9 W v8 m8 x8 v9 m9 x9) {v : Value} {m : Nat} {x : List Value} (ho : W'.ownsRow n0 9 1 v m x) (hg : W.grownBy W' v8.ownBlock) : TwoS n0 k8 k9 s8 s9 W' v m x v9 m9 x9 :=
  ⟨h.b8.grown hg (own_ne h.o8 h.b8 (by decide)), h.b9.grown hg (own_ne h.o8 h.b9 (by decide)), ho, own_chg h.o9 (Chg.of_grown (l := v8.ownBlock.toList) hg (fun g e => .inl (by simp [e]))) (fun q hq hm => own_own h.o9 h.o8 (by decide) q hq (by simpa using hm)), Nat.le_trans h.sz hg.size⟩
theorem TwoS.app9 (h : TwoS n0 k8 k9 s8 s9 W v8 m8 x8 v9 m9 x9) {v : Value} {m : Nat} {x : List Value} (ho : W'.ownsRow n0 3 1 v m x) (hg : W.grownBy W' v9.ownBlock) : TwoS n0 k8 k9 s8 s9 W' v8 m8 x8 v m x :=
  ⟨h.b8.grown hg (own_ne h.o9 h.b8 (by decide)), h.b9.grown hg (own_ne h.o9 h.b9 (by decide)), own_chg h.o8 (Chg.of_grown (l := v9.ownBlock.toList) hg (fun g e => .inl (by simp [e]))) (fun q hq hm => own_own h.o8 h.o9 (by decide) q hq (by simpa using hm)), ho, Nat.le_trans h.sz hg.size⟩
end

section
variable {n0 k8 k9 m8 m9 : Nat} {s8 s9 v8 v9 : Value} {x8 x9 : List Value} {W W2 Wx w8 : World} {L : List Nat}
theorem tk_chg (h0 : Chg L W2 Wx) {v : Value} (hg : Wx.grownBy w8 v.ownBlock) (hL : ∀ q, v.ownBlock = some q → q ∈ L) : Chg L W2 w8 := h0.trans (Chg.of_grown hg (l := L) (fun g e => .inl (hL g e))) (fun _ h => .inl h)
theorem tk_at {v : Value} {g H B : Nat} (h : v.ownBlock = some g ∨ g = H) (hB : B ≤ H) : v.ownBlock = some g ∨ B ≤ g := h.imp id (fun e => by omega)
theorem TwoS.store (h : TwoS n0 k8 k9 s8 s9 W v8 m8 x8 v9 m9 x9) : TwoS n0 k8 k9 v8 v9 ((W.setCell ⟨k8, 0, none⟩ v8).setCell ⟨k9, 0, none⟩ v9) v8 m8 x8 v9 m9 x9 := by
  have hne : k8 ≠ k9 := Blk.ne h.b8 h.b9 (by decide)
  have hc : Chg [k8, k9] W ((W.setCell ⟨k8, 0, none⟩ v8).setCell ⟨k9, 0, none⟩ v9) := ((Chg.refl _ W).setCell (.inl (by simp)) _).setCell (.inl (by simp)) _
  refine ⟨Blk.conv ((h.b8.set 0 v8).far (show k8 ≠ k9 from hne) _) rfl, Blk.conv ((h.b9.far (show k9 ≠ k8 from hne.symm) _).set 0 v9) rfl, own_chg h.o8 hc (fun q hq hm => ?_), own_chg h.o9 hc (fun q hq hm => ?_), Nat.le_trans h.sz hc.size⟩
  · simp at hm
    rcases hm with rfl | rfl
    · exact own_ne h.o8 h.b8 (by decide) hq.symm
    · exact own_ne h.o8 h.b9 (by decide) hq.symm
  · simp at hm
    rcases hm with rfl | rfl
    · exact own_ne h.o9 h.b8 (by decide) hq.symm
    · exact own_ne h.o9 h.b9 (by decide) hq.symm
end
/-- Behind it. -/
def TkPost (n0 k8 k9 : Nat) (W : World) (a8 : Option Addr) (c8 : Nat) (a9 : Option Addr) (c9 m : Nat) (x8 x9 : List Value) (e : Ending) (W' : World) : Prop :=
  e = .returned (.tuple #[]) ∧ ∃ g8 d8 g9 d9, TwoS n0 k8 k9 (.slice (some ⟨g8, 0, none⟩) (m + 1) d8) (.slice (some ⟨g9, 0, none⟩) (m + 1) d9) W' (.slice (some ⟨g8, 0, none⟩) (m + 1) d8) (m + 1) x8 (.slice (some ⟨g9, 0, none⟩) (m + 1) d9) (m + 1) x9 ∧
    ((Value.slice a8 m c8).ownBlock = some g8 ∨ W.heap.size ≤ g8) ∧ ((Value.slice a9 m c9).ownBlock = some g9 ∨ W.heap.size ≤ g9) ∧
    Chg (k8 :: k9 :: ((Value.slice a8 m c8).ownBlock.toList ++ (Value.slice a9 m c9).ownBlock.toList)) W W'
set_option maxRecDepth 100000 in
set_option maxHeartbeats 8000000 in
theorem take1_any (W : World) (n0 k8 k9 lb nb num : Nat) (least : ByteArray) (N : Nd) (hok : NdOk N) (hl : Blk W lb 111 #[.int .i64 num, .string least, .pointer (some ⟨nb, 0, none⟩)]) (hN : Blk W nb 95 (ndCells N)) (k : ByteArray)
    (a8 a9 : Option Addr) (c8 c9 m : Nat) (x8 x9 : List Value) (hm : m ≤ 1000000) (hT : TwoS n0 k8 k9 (.slice a8 m c8) (.slice a9 m c9) W (.slice a8 m c8) m x8 (.slice a9 m c9) m x9) :
    Calls Try.prog 64 #[.pointer (some ⟨lb, 0, none⟩), .string k, .pointer (some ⟨k8, 0, none⟩), .pointer (some ⟨k9, 0, none⟩)] W (TkPost n0 k8 k9 W a8 c8 a9 c9 m (x8 ++ [.string k]) (x9 ++ [.int .i64 (getM N k).1])) := by
  obtain ⟨i9, hi9, hz90, hz91, hz92⟩ := info_parts Try.info9
  obtain ⟨i3, hi3, hz30, hz31, hz32⟩ := info_parts Try.info3'
  have HI9 := Lib.hid hi9
  have HI3 := Lib.hid hi3
  have e2 := hl.at 2 rfl
  have hG := get_any W nb N hok hN k
  obtain ⟨rv, rb⟩ : ∃ rv, rv = (getM N k).1 := ⟨_, rfl⟩
  rw [← rb]
  generalize hgm : getM N k = gm at hG rb
  obtain ⟨gv, gb⟩ := gm
  have hrv : rv = gv := rb
  subst hrv
  have HT := Lib.hid hT
  clear hi9 hi3 hl hN hok hT hgm rb
  go_enter Try.func64, Try.ntmps64
  go_upto_region 1 with (go_at_call 27; refine hG.mono ?_; rintro e W2 ⟨rfl, b2⟩)
  have hT2 : TwoS n0 k8 k9 (.slice a8 m c8) (.slice a9 m c9) W2 (.slice a8 m c8) m x8 (.slice a9 m c9) m x9 := ⟨HT.out.b8.below b2 HT.out.b8.lt, HT.out.b9.below b2 HT.out.b9.lt, own_chg HT.out.o8 (Chg.of_below b2 []) (by simp), own_chg HT.out.o9 (Chg.of_below b2 []) (by simp), Nat.le_trans HT.out.sz b2.size⟩
  have P0 := hT2.drew
  have d8 := P0.b8.at 0 rfl
  have d9 := P0.b9.at 0 rfl
  have f8 := P0.b8.free 0
  have f9 := P0.b9.free 0
  have hszW : W2.drew.heap.size = W2.heap.size := rfl
  have hne1 : ¬ (k8 = k9) := Blk.ne hT2.b8 hT2.b9 (by decide)
  have hne2 : ¬ (k9 = k8) := fun e => hne1 e.symm
  have hL8 : ∀ q, (Value.slice a8 m c8).ownBlock = some q → q ∈ (k8 :: k9 :: ((Value.slice a8 m c8).ownBlock.toList ++ (Value.slice a9 m c9).ownBlock.toList)) := fun q e => by simp [e]
  have hL9 : ∀ q, (Value.slice a9 m c9).ownBlock = some q → q ∈ (k8 :: k9 :: ((Value.slice a8 m c8).ownBlock.toList ++ (Value.slice a9 m c9).ownBlock.toList)) := fun q e => by simp [e]
  have c8b := hT2.b8.at 0 rfl
  have c9b := hT2.b9.at 0 rfl
  have l8' := hT2.b8.lt
  have l9' := hT2.b9.lt
  go_region_law (first
    | ((refine step_append_lies _ rfl (.tmp 21) (.tmp 23) 62 rfl n0 3 i3 (.int .i64 0) 1 8 Try.underlying62' HI3.out hz30 hz31 hz32 rfl (by decide) (.slice a9 m c9) m x9 rfl P1.o9 ⟨W2.heap.size + 1, 0, none⟩ 1 1 [.int .i64 rv] rfl rfl (fun j u hu => World.news_of_block (B := W2.heap.size + 1) (t := 3) (fr := (0, 0)) (M2b) j u hu) (by intro u hu; simp at hu; subst hu; rfl) (by decide) (by unfold maxLen; omega) (by omega) P1.sz _ rfl ?_); intro g9 dc9 w9 ho9 hg9 hat9 hlt9; have P2 := P1.app9 ho9 hg9; have r8 := P2.b8.at 0 rfl; have r9 := P2.b9.at 0 rfl; have fr8 := P2.b8.free 0; have fr9 := P2.b9.free 0; have hC2 : Chg (k8 :: k9 :: ((Value.slice a8 m c8).ownBlock.toList ++ (Value.slice a9 m c9).ownBlock.toList)) w8 w9 := tk_chg (Chg.refl (k8 :: k9 :: ((Value.slice a8 m c8).ownBlock.toList ++ (Value.slice a9 m c9).ownBlock.toList)) w8) hg9 hL9; have hB9 := tk_at (B := w8.heap.size) hat9 (Nat.le_refl _))
    | ((refine step_append_lies _ rfl (.tmp 21) (.tmp 23) 62 rfl n0 3 i3 (.int .i64 0) 1 8 Try.underlying62' HI3.out hz30 hz31 hz32 rfl (by decide) (.slice a9 m c9) m x9 rfl P1.o9 ⟨W2.heap.size, 0, none⟩ 1 1 [.int .i64 rv] rfl rfl (fun j u hu => World.news_of_block (B := W2.heap.size) (t := 3) (fr := (0, 0)) (M2c) j u hu) (by intro u hu; simp at hu; subst hu; rfl) (by decide) (by unfold maxLen; omega) (by omega) P1.sz _ rfl ?_); intro g9 dc9 w9 ho9 hg9 hat9 hlt9; have P2 := P1.app9 ho9 hg9; have r8 := P2.b8.at 0 rfl; have r9 := P2.b9.at 0 rfl; have fr8 := P2.b8.free 0; have fr9 := P2.b9.free 0; have hC2 : Chg (k8 :: k9 :: ((Value.slice a8 m c8).ownBlock.toList ++ (Value.slice a9 m c9).ownBlock.toList)) w8 w9 := tk_chg (Chg.refl (k8 :: k9 :: ((Value.slice a8 m c8).ownBlock.toList ++ (Value.slice a9 m c9).ownBlock.toList)) w8) hg9 hL9; have hB9 := tk_at (B := w8.heap.size) hat9 (Nat.le_refl _))
    | ((refine step_append_lies _ rfl (.tmp 21) (.tmp 23) 62 rfl n0 3 i3 (.int .i64 0) 1 8 Try.underlying62' HI3.out hz30 hz31 hz32 rfl (by decide) (.slice a9 m c9) m x9 rfl (P1.alloc _).o9 ⟨w8.heap.size, 0, none⟩ 1 1 [.int .i64 rv] rfl rfl (fun j u hu => World.news_of_block (B := w8.heap.size) (t := 3) (fr := (0, 0)) (Blk.new w8 3 _) j u hu) (by intro u hu; simp at hu; subst hu; rfl) (by decide) (by unfold maxLen; omega) (by omega) (P1.alloc _).sz _ rfl ?_); intro g9 dc9 w9 ho9 hg9 hat9 hlt9; have P2 := (P1.alloc (.cells #[.int .i64 rv] 3)).app9 ho9 hg9; have r8 := P2.b8.at 0 rfl; have r9 := P2.b9.at 0 rfl; have fr8 := P2.b8.free 0; have fr9 := P2.b9.free 0; have hC2 : Chg (k8 :: k9 :: ((Value.slice a8 m c8).ownBlock.toList ++ (Value.slice a9 m c9).ownBlock.toList)) w8 w9 := tk_chg ((Chg.refl (k8 :: k9 :: ((Value.slice a8 m c8).ownBlock.toList ++ (Value.slice a9 m c9).ownBlock.toList)) w8).alloc (.cells #[.int .i64 rv] 3)) hg9 hL9; have hB9 := tk_at (B := w8.heap.size) hat9 (by simp))
    | ((refine step_append_lies _ rfl (.tmp 17) (.tmp 19) 44 rfl n0 9 i9 (.string ⟨#[]⟩) 1 16 Try.underlying44 HI9.out hz90 hz91 hz92 rfl (by decide) (.slice a8 m c8) m x8 rfl ((hT2.alloc _).alloc _).drew.o8 ⟨W2.heap.size, 0, none⟩ 1 1 [.string k] rfl rfl (fun j u hu => World.news_of_block (B := W2.heap.size) (t := 9) (fr := (0, 0)) (((Blk.new W2 9 #[.string k]).alloc (.cells #[.int .i64 rv] 3)).drew) j u hu) (by intro u hu; simp at hu; subst hu; rfl) (by decide) (by unfold maxLen; omega) (by omega) ((hT2.alloc _).alloc _).drew.sz _ rfl ?_); intro g8 dc8 w8 ho8 hg8 hat8 hlt8; have P1 := ((hT2.alloc (.cells #[.string k] 9)).alloc (.cells #[.int .i64 rv] 3)).drew.app8 ho8 hg8; have q8 := P1.b8.at 0 rfl; have q9 := P1.b9.at 0 rfl; have l8 := P1.b8.lt; have l9 := P1.b9.lt; have M2b : Blk w8 (W2.heap.size + 1) 3 #[.int .i64 rv] := Blk.grown (Blk.new' (W2.alloc (.cells #[.string k] 9)) 3 #[.int .i64 rv] (by simp)).drew hg8 (own_ne ((hT2.alloc (.cells #[.string k] 9)).alloc (.cells #[.int .i64 rv] 3)).drew.o8 (Blk.new' (W2.alloc (.cells #[.string k] 9)) 3 #[.int .i64 rv] (by simp)).drew (by decide)); have hC1 : Chg (k8 :: k9 :: ((Value.slice a8 m c8).ownBlock.toList ++ (Value.slice a9 m c9).ownBlock.toList)) W2 w8 := tk_chg ((((Chg.refl (k8 :: k9 :: ((Value.slice a8 m c8).ownBlock.toList ++ (Value.slice a9 m c9).ownBlock.toList)) W2).alloc _).alloc _).drew) hg8 hL8; have hB8 := tk_at (B := W2.heap.size) hat8 (by simp; omega))
    | ((refine step_append_lies _ rfl (.tmp 17) (.tmp 19) 44 rfl n0 9 i9 (.string ⟨#[]⟩) 1 16 Try.underlying44 HI9.out hz90 hz91 hz92 rfl (by decide) (.slice a8 m c8) m x8 rfl ((hT2.alloc _).alloc _).drew.o8 ⟨W2.heap.size + 1, 0, none⟩ 1 1 [.string k] rfl rfl (fun j u hu => World.news_of_block (B := W2.heap.size + 1) (t := 9) (fr := (0, 0)) ((Blk.new' (W2.alloc (.cells #[.int .i64 rv] 3)) 9 #[.string k] (by simp)).drew) j u hu) (by intro u hu; simp at hu; subst hu; rfl) (by decide) (by unfold maxLen; omega) (by omega) ((hT2.alloc _).alloc _).drew.sz _ rfl ?_); intro g8 dc8 w8 ho8 hg8 hat8 hlt8; have P1 := ((hT2.alloc (.cells #[.int .i64 rv] 3)).alloc (.cells #[.string k] 9)).drew.app8 ho8 hg8; have q8 := P1.b8.at 0 rfl; have q9 := P1.b9.at 0 rfl; have l8 := P1.b8.lt; have l9 := P1.b9.lt; have M2c : Blk w8 W2.heap.size 3 #[.int .i64 rv] := Blk.grown ((Blk.new W2 3 #[.int .i64 rv]).alloc (.cells #[.string k] 9)).drew hg8 (own_ne ((hT2.alloc (.cells #[.int .i64 rv] 3)).alloc (.cells #[.string k] 9)).drew.o8 ((Blk.new W2 3 #[.int .i64 rv]).alloc (.cells #[.string k] 9)).drew (by decide)); have hC1 : Chg (k8 :: k9 :: ((Value.slice a8 m c8).ownBlock.toList ++ (Value.slice a9 m c9).ownBlock.toList)) W2 w8 := tk_chg ((((Chg.refl (k8 :: k9 :: ((Value.slice a8 m c8).ownBlock.toList ++ (Value.slice a9 m c9).ownBlock.toList)) W2).alloc _).alloc _).drew) hg8 hL8; have hB8 := tk_at (B := W2.heap.size) hat8 (by simp; omega))
    | ((refine step_append_lies _ rfl (.tmp 17) (.tmp 19) 44 rfl n0 9 i9 (.string ⟨#[]⟩) 1 16 Try.underlying44 HI9.out hz90 hz91 hz92 rfl (by decide) (.slice a8 m c8) m x8 rfl (hT2.alloc _).drew.o8 ⟨W2.heap.size, 0, none⟩ 1 1 [.string k] rfl rfl (fun j u hu => World.news_of_block (B := W2.heap.size) (t := 9) (fr := (0, 0)) ((Blk.new W2 9 #[.string k]).drew) j u hu) (by intro u hu; simp at hu; subst hu; rfl) (by decide) (by unfold maxLen; omega) (by omega) (hT2.alloc _).drew.sz _ rfl ?_); intro g8 dc8 w8 ho8 hg8 hat8 hlt8; have P1 := (hT2.alloc (.cells #[.string k] 9)).drew.app8 ho8 hg8; have q8 := P1.b8.at 0 rfl; have q9 := P1.b9.at 0 rfl; have l8 := P1.b8.lt; have l9 := P1.b9.lt; have hC1 : Chg (k8 :: k9 :: ((Value.slice a8 m c8).ownBlock.toList ++ (Value.slice a9 m c9).ownBlock.toList)) W2 w8 := tk_chg (((Chg.refl (k8 :: k9 :: ((Value.slice a8 m c8).ownBlock.toList ++ (Value.slice a9 m c9).ownBlock.toList)) W2).alloc _).drew) hg8 hL8; have hB8 := tk_at (B := W2.heap.size) hat8 (by simp)))
  all_goals
    go_end0
    have hs2 := b2.size
    have hs8 := hC1.size
    refine ⟨rfl, g8, dc8, g9, dc9, P2.store, hB8.imp id (fun e => by omega), hB9.imp id (fun e => by omega), ?_⟩
    exact ((((Chg.of_below b2 _).trans hC1 (fun _ h => .inl h)).trans hC2 (fun _ h => .inl h)).setCell (.inl (by simp)) _).setCell (.inl (by simp)) _

end Go.Proofs.Ythplnecnagbedaa
