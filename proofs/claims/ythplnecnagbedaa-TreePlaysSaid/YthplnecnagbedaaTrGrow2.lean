/- grow of the tree by contract: one leaf more, at a place; conditions: the tree lies in memory, the new node in a block of its own. -/
import Derived.Test.YthplnecnagbedaaTrGrow
namespace Go.Proofs.Ythplnecnagbedaa
open Go.RowKit

/-- Behind grow. -/
def GrowPost (B : Nat) (w : World) (M : TrM) (T : Tr) (n at_ : Nat) (least : ByteArray) (nb : Nat) (R : Nd) (e : Ending) (w' : World) : Prop :=
  e = .returned (.tuple #[]) ∧ ∃ M', TreeAt B w' M' (T.take at_ ++ ⟨T.length, least, R⟩ :: T.drop at_) n ∧ M'.tb = M.tb ∧ (∀ q ∈ M'.F, q ∈ M.F ∨ q = nb ∨ w.heap.size ≤ q) ∧ Chg M.F w w'
theorem nums_grow {T : Tr} (h : Nums T) (i : Nat) (k : ByteArray) (R : Nd) : Nums (T.take i ++ ⟨T.length, k, R⟩ :: T.drop i) := by
  unfold Nums at h ⊢
  have e : (T.take i ++ ⟨T.length, k, R⟩ :: T.drop i).length = T.length + 1 := by simp; omega
  rw [e, List.map_append, List.map_cons]
  refine List.perm_middle.trans ?_
  rw [← List.map_append, List.take_append_drop]
  refine (List.Perm.cons _ h).trans ?_
  rw [List.range_succ]
  exact (List.perm_append_singleton _ _).symm
/-- One leaf more, put together. -/
theorem tree_more {B n : Nat} {w w' : World} {M : TrM} {T : Tr} (h : TreeAt B w M T n) {L : List Nat} (hc : Chg L w w') (hL : ∀ q ∈ L, q = M.tb ∨ (Value.slice M.a T.length M.k).ownBlock = some q ∨ (Value.slice M.a2 T.length M.k2).ownBlock = some q)
    (at_ lb nb : Nat) (least : ByteArray) (R : Nd) (a : Option Addr) (k : Nat) (a2 : Option Addr) (k2 : Nat)
    (hblk : Blk w' M.tb 106 #[.slice a (T.length + 1) k, .slice a2 (T.length + 1) k2, .int .i64 (n : Nat)])
    (hrowL : w'.ownsRow B 109 1 (.slice a (T.length + 1) k) (T.length + 1) ((T.map fun l => ptr (M.lb l.num)).take at_ ++ ptr lb :: (T.map fun l => ptr (M.lb l.num)).drop at_))
    (hrowN : w'.ownsRow B 109 1 (.slice a2 (T.length + 1) k2) (T.length + 1) ((M.P.map fun p => ptr p.1) ++ [ptr lb]))
    (hlb : Blk w' lb 111 #[.int .i64 (T.length : Nat), .string least, ptr nb]) (hnb : Blk w' nb 95 (ndCells R)) (hnF : nb ∉ M.F)
    (htwo : ∀ q, (Value.slice a (T.length + 1) k).ownBlock = some q → (Value.slice a2 (T.length + 1) k2).ownBlock ≠ some q) (hB : B ≤ lb ∧ B ≤ nb) :
    TreeAt B w' ⟨M.tb, a, k, a2, k2, M.P ++ [(lb, nb)]⟩ (T.take at_ ++ ⟨T.length, least, R⟩ :: T.drop at_) n := by
  have hlen : (T.take at_ ++ ⟨T.length, least, R⟩ :: T.drop at_).length = T.length + 1 := by simp; omega
  have hold : ∀ j, j < T.length → TrM.lb ⟨M.tb, a, k, a2, k2, M.P ++ [(lb, nb)]⟩ j = M.lb j ∧ TrM.nb ⟨M.tb, a, k, a2, k2, M.P ++ [(lb, nb)]⟩ j = M.nb j := fun j hj => by
    have hl : j < M.P.length := by rw [h.len]; exact hj
    constructor <;> simp [TrM.lb, TrM.nb, List.getD, List.getElem?_append, hl]
  have hnew : TrM.lb ⟨M.tb, a, k, a2, k2, M.P ++ [(lb, nb)]⟩ T.length = lb ∧ TrM.nb ⟨M.tb, a, k, a2, k2, M.P ++ [(lb, nb)]⟩ T.length = nb := by
    rw [← h.len]
    constructor <;> simp [TrM.lb, TrM.nb, List.getD]
  have hfar : ∀ {g : Nat} {t : TypeId} {cs : Array Value}, Blk w g t cs → t ≠ 106 → t ≠ 109 → g ∉ L := fun hb h1 h2 hm => by
    rcases hL _ hm with e | e | e
    · exact Blk.ne hb h.blk h1 e
    · exact own_ne h.rowL hb (Ne.symm h2) e.symm
    · exact own_ne h.rowN hb (Ne.symm h2) e.symm
  have hmem : ∀ l ∈ T.take at_ ++ ⟨T.length, least, R⟩ :: T.drop at_, l ∈ T ∨ l = ⟨T.length, least, R⟩ := fun l hl => by
    rcases List.mem_append.1 hl with hl | hl
    · exact .inl (List.mem_of_mem_take hl)
    · rcases List.mem_cons.1 hl with hl | hl
      · exact .inr hl
      · exact .inl (List.mem_of_mem_drop hl)
  have hmap : ((T.take at_ ++ ⟨T.length, least, R⟩ :: T.drop at_).map fun l => ptr (TrM.lb ⟨M.tb, a, k, a2, k2, M.P ++ [(lb, nb)]⟩ l.num)) = ((T.map fun l => ptr (M.lb l.num)).take at_ ++ ptr lb :: (T.map fun l => ptr (M.lb l.num)).drop at_) := by
    have hm : ∀ (S : Tr), (∀ l ∈ S, l ∈ T) → (S.map fun l => ptr (TrM.lb ⟨M.tb, a, k, a2, k2, M.P ++ [(lb, nb)]⟩ l.num)) = S.map fun l => ptr (M.lb l.num) := fun S hS =>
      List.map_congr_left fun l hl => by rw [(hold l.num (h.nums.lt l (hS l hl))).1]
    rw [List.map_append, List.map_cons, hm _ (fun l hl => List.mem_of_mem_take hl), hm _ (fun l hl => List.mem_of_mem_drop hl), hnew.1, List.map_take, List.map_drop]
  refine ⟨by rw [hlen]; exact hblk, by rw [hlen, hmap]; exact hrowL, by rw [hlen]; simpa using hrowN, fun l hl => ?_, fun l hl => ?_, ?_, by rw [hlen]; simp [h.len], by rw [hlen]; exact htwo, nums_grow h.nums _ _ _, h.base.1, fun p hp => ?_⟩
  · rcases hmem l hl with hl | rfl
    · obtain ⟨q1, q2⟩ := hold l.num (h.nums.lt l hl)
      rw [q1, q2]
      exact (h.leaf l hl).chg hc (hfar (h.leaf l hl) (by decide) (by decide))
    · rw [hnew.1, hnew.2]; exact hlb
  · rcases hmem l hl with hl | rfl
    · rw [(hold l.num (h.nums.lt l hl)).2]
      exact (h.node l hl).chg hc (hfar (h.node l hl) (by decide) (by decide))
    · rw [hnew.2]; exact hnb
  · show (List.map (·.2) (M.P ++ [(lb, nb)])).Nodup
    rw [List.map_append, List.nodup_append]
    refine ⟨h.nds, by simp, fun x hx y hy => ?_⟩
    simp at hy
    subst hy
    rintro rfl
    refine hnF ?_
    unfold TrM.F
    simp only [List.mem_cons, List.mem_append]
    exact .inr (.inr (.inr hx))
  · rcases List.mem_append.1 hp with hp | hp
    · exact h.base.2 p hp
    · simp at hp; subst hp; exact hB

def Stop (p : Prop) : Prop := p
theorem stop_of {p : Prop} (h : Stop p) : p := h
theorem Try.underlying104 : Try.prog.underlying 104 = some (.slice 109) := by kernel_rfl
theorem grow_lt {w w7 : World} {o1 o2 : Obj} {row : Option Nat} {g : Nat} (h : ((w.alloc o1).alloc o2).grownBy w7 row) (hg : g < w.heap.size) : g < w7.heap.size := by
  have := h.size
  simp only [World.size_alloc] at this
  omega
theorem grow_blk {w w7 : World} {o1 o2 : Obj} {B n : Nat} {M : TrM} {T : Tr} (hT : TreeAt B w M T n) (h : ((w.alloc o1).alloc o2).grownBy w7 (Value.slice M.a2 T.length M.k2).ownBlock) : Blk w7 M.tb 106 #[.slice M.a T.length M.k, .slice M.a2 T.length M.k2, .int .i64 (n : Nat)] :=
  Blk.grown ((hT.blk.alloc _).alloc _) h (own_ne hT.rowN hT.blk (by decide))
set_option maxRecDepth 100000 in
set_option maxHeartbeats 1000000 in
theorem grow_tr (w : World) (B n : Nat) (M : TrM) (T : Tr) (hT : TreeAt B w M T n) (hm : T.length ≤ 100000) (at_ : Nat) (hat : at_ ≤ T.length) (least : ByteArray) (nb : Nat) (R : Nd) (hN : Blk w nb 95 (ndCells R)) (hnF : nb ∉ M.F) (hnB : B ≤ nb) :
    Calls Try.prog 62 #[.pointer (some ⟨M.tb, 0, none⟩), .int .i64 at_, .string least, .pointer (some ⟨nb, 0, none⟩)] w (GrowPost B w M T n at_ least nb R) := by
  obtain ⟨i0, hi, hz0, hz1, hz2⟩ := info_parts Try.info109
  have HINF := Lib.hid hi
  have c0 := hT.blk.at 0 rfl
  have c1 := hT.blk.at 1 rfl
  have hBw : B ≤ w.heap.size := Nat.le_of_lt (Nat.lt_of_le_of_lt hT.base.1 hT.blk.lt)
  have htl := hT.blk.lt
  have hBL : ∀ W, Below w.heap.size w W → TreeAt B W M T n ∧ Blk W nb 95 (ndCells R) := fun W hb => ⟨hT.below hb, hN.below hb hN.lt⟩
  have HBL := Lib.hid hBL
  have HT := Lib.hid hT
  have HN := Lib.hid hN
  clear hi hBL hN hT
  have hrow1 : ((w.alloc (.cells #[.int .i64 (T.length : Nat), .string least, .pointer (some ⟨nb, 0, none⟩)] 111)).alloc (.cells #[.pointer (some ⟨w.heap.size, 0, none⟩)] 109)).ownsRow B 109 1 (.slice M.a2 T.length M.k2) T.length (M.P.map fun p => ptr p.1) := by
    have := ((HBL.out _ (((Below.refl _ w).alloc (Nat.le_refl _) (.cells #[.int .i64 (T.length : Nat), .string least, .pointer (some ⟨nb, 0, none⟩)] 111)).alloc (by simp) (.cells #[.pointer (some ⟨w.heap.size, 0, none⟩)] 109))).1).rowN
    exact this
  have HR1 := Lib.hid hrow1
  have hnw : Blk ((w.alloc (.cells #[.int .i64 (T.length : Nat), .string least, .pointer (some ⟨nb, 0, none⟩)] 111)).alloc (.cells #[.pointer (some ⟨w.heap.size, 0, none⟩)] 109)) (w.heap.size + 1) 109 #[.pointer (some ⟨w.heap.size, 0, none⟩)] := Blk.new' _ _ _ (by simp)
  have HNW := Lib.hid hnw
  clear hnw
  clear hrow1
  have hfr := fun i => (HT.out.blk.free i)
  have hf0 := hfr 0
  have hf1 := hfr 1
  have c2 := HT.out.blk.at 2 rfl
  clear hfr
  go_enter Try.func62, Try.ntmps62
  go_upto_region 2 with (at_builtin; refine wpList_append_ap rfl (.tmp 22) (.tmp 24) 104 rfl B 109 i0 (.pointer none) 1 8 Try.underlying104 HINF.out hz0 hz1 hz2 rfl (by decide) (.slice M.a2 T.length M.k2) T.length _ rfl HR1.out (some ⟨w.heap.size + 1, 0, none⟩) 1 1 [.pointer (some ⟨w.heap.size, 0, none⟩)] rfl rfl (news_blk HNW.out) (by intro u hu; simp at hu; subst hu; rfl) (T.length + 1) rfl _ rfl (by unfold maxLen; omega) (by omega) (by simp; omega) ?_; intro a7 k7 w7 hown7 hgr7 hat7; have hg7 : M.tb < w7.heap.size := (grow_lt hgr7 htl); have b7 := grow_blk HT.out hgr7; have c07 := b7.at 0 rfl; have c17 := b7.at 1 rfl; have hf7 := b7.free 1)
  have hNt : nb ≠ M.tb := fun e => hnF (e ▸ TreeAt.tbF M)
  have ha2 : ∀ q, (Value.slice M.a2 T.length M.k2).ownBlock = some q → q < w.heap.size := fun q hq => (HT.out.rowN.lt q hq).2
  have ha1 : ∀ q, (Value.slice M.a T.length M.k).ownBlock = some q → q < w.heap.size := fun q hq => (HT.out.rowL.lt q hq).2
  have hcA : Chg (M.tb :: M.a2.toList.map (·.block)) w (w7.setCell ⟨M.tb, 1, none⟩ (.slice a7 (T.length + 1) k7)) :=
    ((((Chg.refl (M.tb :: M.a2.toList.map (·.block)) w).alloc _).alloc _).trans (Chg.of_grown hgr7 (l := M.tb :: M.a2.toList.map (·.block)) (fun g hg => .inl (by obtain ⟨ad, e, rfl⟩ := own_some hg; simp [e]))) (fun q hq => .inl hq)).setCell (.inl (by simp)) _
  have hLA : ∀ q ∈ M.tb :: M.a2.toList.map (·.block), q = M.tb ∨ (Value.slice M.a2 T.length M.k2).ownBlock = some q := fun q hq => by
    rcases List.mem_cons.1 hq with e | e
    · exact .inl e
    · right
      cases ha : M.a2 with
      | none => rw [ha] at e; simp at e
      | some ad => rw [ha] at e; simp at e; rw [e]; rfl
  have hb8 : Blk (w7.setCell ⟨M.tb, 1, none⟩ (.slice a7 (T.length + 1) k7)) M.tb 106 #[.slice M.a T.length M.k, .slice a7 (T.length + 1) k7, .int .i64 (n : Nat)] := Blk.conv (b7.set 1 _) rfl
  have hlf7 : Blk w7 w.heap.size 111 #[.int .i64 (T.length : Nat), .string least, .pointer (some ⟨nb, 0, none⟩)] := Blk.grown ((Blk.new w 111 _).alloc _) hgr7 (fun e => by have := ha2 _ e.symm; omega)
  have hlf8 : Blk (w7.setCell ⟨M.tb, 1, none⟩ (.slice a7 (T.length + 1) k7)) w.heap.size 111 #[.int .i64 (T.length : Nat), .string least, .pointer (some ⟨nb, 0, none⟩)] := hlf7.far (by show w.heap.size ≠ M.tb; omega) _
  have hnb8 : Blk (w7.setCell ⟨M.tb, 1, none⟩ (.slice a7 (T.length + 1) k7)) nb 95 (ndCells R) := HN.out.chg hcA (fun hm => by
    rcases hLA _ hm with e | e
    · exact hNt e
    · exact own_ne HT.out.rowN HN.out (by decide) e.symm)
  have hown8 : (w7.setCell ⟨M.tb, 1, none⟩ (.slice a7 (T.length + 1) k7)).ownsRow B 109 1 (.slice a7 (T.length + 1) k7) (T.length + 1) ((M.P.map fun p => ptr p.1) ++ [ptr w.heap.size]) :=
    own_chg hown7 ((Chg.refl [M.tb] w7).setCell (.inl (by simp)) _) (fun q hq hm => by simp at hm; subst hm; exact own_ne hown7 b7 (by decide) hq.symm)
  have hrl8 : (w7.setCell ⟨M.tb, 1, none⟩ (.slice a7 (T.length + 1) k7)).ownsRow B 109 1 (.slice M.a T.length M.k) T.length (T.map fun l => ptr (M.lb l.num)) :=
    own_chg HT.out.rowL hcA (fun q hq hm => by
      rcases hLA _ hm with e | e
      · exact own_ne HT.out.rowL HT.out.blk (by decide) (by rw [hq, e])
      · exact HT.out.two q hq e)
  have hs8 : w.heap.size + 2 ≤ (w7.setCell ⟨M.tb, 1, none⟩ (.slice a7 (T.length + 1) k7)).heap.size := by
    have := hgr7.size
    simp only [World.size_alloc] at this
    simp only [World.size_setCell]
    omega
  have hq7 : ∀ q, (Value.slice a7 (T.length + 1) k7).ownBlock = some q → (Value.slice M.a2 T.length M.k2).ownBlock = some q ∨ w.heap.size ≤ q := fun q hq => by
    rcases hat7 with e | e
    · exact .inl (by rw [← e]; exact hq)
    · right
      rw [e] at hq
      injection hq with hq
      simp only [World.size_alloc] at hq
      omega
  clear c07 c17 hf7 b7 hgr7 hat7 hown7 hg7 hlf7
  generalize hw8 : w7.setCell ⟨M.tb, 1, none⟩ (.slice a7 (T.length + 1) k7) = w8 at *
  clear hw8
  have c08 := hb8.at 0 rfl
  have hb8' := hb8.alloc (.cells #[.pointer (some ⟨w.heap.size, 0, none⟩)] 109)
  have hrl8' : (w8.alloc (.cells #[.pointer (some ⟨w.heap.size, 0, none⟩)] 109)).ownsRow B 109 1 (.slice M.a T.length M.k) T.length (T.map fun l => ptr (M.lb l.num)) := own_chg hrl8 ((Chg.refl [] w8).alloc _) (by simp)
  have hI := insertL_any (w8.alloc (.cells #[.pointer (some ⟨w.heap.size, 0, none⟩)] 109)) B M.a T.length M.k (T.map fun l => ptr (M.lb l.num)) (by intro u hu; obtain ⟨x, _, rfl⟩ := List.mem_map.1 hu; rfl) hrl8' (by simp; omega) hm at_ hat w8.heap.size (ptr w.heap.size) rfl (Blk.new w8 109 _) (fun e => by have := ha1 _ e; omega)
  have HB8 := Lib.hid hb8
  have HB8' := Lib.hid hb8'
  have HCA := Lib.hid hcA
  have HLA := Lib.hid hLA
  have HLF := Lib.hid hlf8
  have HNB := Lib.hid hnb8
  have HO8 := Lib.hid hown8
  have HRL := Lib.hid hrl8
  have HRL' := Lib.hid hrl8'
  have HA1 := Lib.hid ha1
  have HA2 := Lib.hid ha2
  have HQ7 := Lib.hid hq7
  clear hb8 hb8' hcA hLA hlf8 hnb8 hown8 hrl8 hrl8' ha1 ha2 hq7 c0 c1 c2 hf0 hf1
  go_wp2_with (go_at_call 77; refine hI.mono ?_; rintro e w9 ⟨a9, k9, rfl, hown9, hgr9, hat9⟩; have b9 := Blk.grown HB8'.out hgr9 (own_ne HRL'.out HB8'.out (by decide)); have f9 := b9.free 0; have c9 := b9.at 0 rfl)
  go_end0
  have hcB : Chg (M.a.toList.map (·.block)) w8 w9 := (((Chg.refl (M.a.toList.map (·.block)) w8).alloc _).trans (Chg.of_grown hgr9 (l := M.a.toList.map (·.block)) (fun g hg => .inl (by obtain ⟨ad, e, rfl⟩ := own_some hg; simp [e]))) (fun q hq => .inl hq))
  have hLB : ∀ q ∈ M.a.toList.map (·.block), (Value.slice M.a T.length M.k).ownBlock = some q := fun q e => by
    cases ha : M.a with
    | none => rw [ha] at e; simp at e
    | some ad => rw [ha] at e; simp at e; rw [e]; rfl
  have hcw : Chg (M.tb :: (M.a.toList ++ M.a2.toList).map (·.block)) w (w9.setCell ⟨M.tb, 0, none⟩ (.slice a9 (T.length + 1) k9)) :=
    ((HCA.out.more (l' := M.tb :: (M.a.toList ++ M.a2.toList).map (·.block)) (fun q hq => .inl (by simp at hq ⊢; rcases hq with h | h; exact .inl h; exact .inr (.inr h)))).trans hcB (fun q hq => .inl (by simp at hq ⊢; exact .inr (.inl hq)))).setCell (.inl (by simp)) _
  have hLw : ∀ q ∈ M.tb :: (M.a.toList ++ M.a2.toList).map (·.block), q = M.tb ∨ (Value.slice M.a T.length M.k).ownBlock = some q ∨ (Value.slice M.a2 T.length M.k2).ownBlock = some q := fun q hq => by
    rw [List.map_append, List.mem_cons, List.mem_append] at hq
    rcases hq with h | h | h
    · exact .inl h
    · exact .inr (.inl (hLB q h))
    · rcases HLA.out q (List.mem_cons_of_mem _ h) with h | h
      · exact .inl h
      · exact .inr (.inr h)
  have hset : Chg [M.tb] w9 (w9.setCell ⟨M.tb, 0, none⟩ (.slice a9 (T.length + 1) k9)) := (Chg.refl _ _).setCell (.inl (by simp)) _
  have hown7q : ∀ q, (Value.slice a7 (T.length + 1) k7).ownBlock = some q → q ∉ M.a.toList.map (·.block) := fun q hq hm => by
    have h1 := hLB q hm
    rcases HQ7.out q hq with h2 | h2
    · exact HT.out.two q h1 h2
    · have := HA1.out q h1; omega
  have ho9 : w9.ownsRow B 109 1 (.slice a7 (T.length + 1) k7) (T.length + 1) ((M.P.map fun p => ptr p.1) ++ [ptr w.heap.size]) := own_chg HO8.out hcB hown7q
  have hb7lt : ∀ q, (Value.slice a7 (T.length + 1) k7).ownBlock = some q → q < w8.heap.size := fun q hq => (HO8.out.lt q hq).2
  refine ⟨rfl, ⟨M.tb, a9, k9, a7, k7, M.P ++ [(w.heap.size, nb)]⟩, tree_more HT.out hcw hLw at_ w.heap.size nb least R a9 k9 a7 k7 (Blk.conv (b9.set 0 _) rfl) (own_chg hown9 hset (fun q hq hm => by simp at hm; subst hm; exact own_ne hown9 b9 (by decide) hq.symm)) (own_chg ho9 hset (fun q hq hm => by simp at hm; subst hm; exact own_ne ho9 b9 (by decide) hq.symm)) ?_ ?_ hnF ?_ ⟨hBw, hnB⟩, rfl, ?_, hcw.more (fun q hq => .inl ?_)⟩
  · refine ((HLF.out.chg hcB (fun hm => ?_)).far ?_ _)
    · have := HA1.out _ (hLB _ hm); omega
    · show w.heap.size ≠ M.tb; omega
  · refine ((HNB.out.chg hcB (fun hm => ?_)).far ?_ _)
    · exact own_ne HT.out.rowL HN.out (by decide) (hLB _ hm).symm
    · exact hNt
  · intro q hq h7
    rcases hat9 with e | e
    · rw [e] at hq
      exact hown7q q h7 (by obtain ⟨ad, e, rfl⟩ := own_some hq; simp [e])
    · rw [e] at hq
      injection hq with hq
      have := hb7lt q h7
      simp only [World.size_alloc] at hq
      omega
  · intro q hq
    unfold TrM.F at hq
    simp only [List.mem_cons, List.mem_append, List.map_append, List.map_cons, List.map_nil] at hq
    rcases hq with rfl | (h | h) | (h | h) | (h | h)
    · exact .inl (TreeAt.tbF M)
    · have : (Value.slice a9 (T.length + 1) k9).ownBlock = some q := by
        cases ha : a9 with
        | none => rw [ha] at h; simp at h
        | some ad => rw [ha] at h; simp at h; rw [h]; rfl
      rcases hat9 with e | e
      · rw [e] at this; exact .inl (TreeAt.aF this)
      · rw [e] at this; injection this with this; simp only [World.size_alloc] at this; exact .inr (.inr (by omega))
    · have : (Value.slice a7 (T.length + 1) k7).ownBlock = some q := by
        cases ha : a7 with
        | none => rw [ha] at h; simp at h
        | some ad => rw [ha] at h; simp at h; rw [h]; rfl
      rcases HQ7.out q this with e | e
      · exact .inl (TreeAt.a2F e)
      · exact .inr (.inr e)
    · left; unfold TrM.F; simp only [List.mem_cons, List.mem_append]; exact .inr (.inr (.inl h))
    · simp at h; subst h; exact .inr (.inr (Nat.le_refl _))
    · left; unfold TrM.F; simp only [List.mem_cons, List.mem_append]; exact .inr (.inr (.inr h))
    · simp at h; subst h; exact .inr (.inl rfl)
  · rcases hLw q hq with rfl | h | h
    · exact TreeAt.tbF M
    · exact TreeAt.aF h
    · exact TreeAt.a2F h

end Go.Proofs.Ythplnecnagbedaa
