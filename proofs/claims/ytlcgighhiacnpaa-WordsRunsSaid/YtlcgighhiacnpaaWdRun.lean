/- Run of package words by its contract; conditions: as what came in reads. -/
import Derived.Test.YtlcgighhiacnpaaWdRunPure
import Derived.Test.YtlcgighhiacnpaaWdStep
import Derived.Test.YtlcgighhiacnpaaWdCheck2
import Derived.Test.YtlcgighhiacnpaaWdParts
import Derived.Deep.RegionLaw
import Derived.Deep.AppendLies
namespace Go.Proofs.Ytlcgighhiacnpaa
open Go.RowKit

theorem Try.info56 : (Try.prog.info? 56).map (fun i => (i.zero, i.size, i.bytes)) = some (some (.agg zTask), 10, 96) := by kernel_rfl
theorem runM_err {T : List (List Ins)} {C : List Nat} {P : List Int} (h : (chk T C.length).2.2 ≠ 0) : runM T C P = (rep0, (chk T C.length).2.2) := by unfold runM; rw [if_pos h]
theorem runM_long {T : List (List Ins)} {C : List Nat} {P : List Int} (h : (chk T C.length).2.2 = 0) (h2 : 1048576 < P.length) : runM T C P = (rep0, 2) := by unfold runM; rw [if_neg (by simp [h]), if_pos h2]
theorem runM_rest {T : List (List Ins)} {C : List Nat} {P : List Int} (h : (chk T C.length).2.2 = 0) (h2 : ¬ 1048576 < P.length) : runM T C P = match P.any fun x => decide (x < 0 ∨ (T.length : Int) ≤ x) with
    | true => (rep0, 1)
    | false => (repOf T (runS T C P), 0) := by unfold runM; rw [if_neg (by simp [h]), if_neg h2]; rfl

/-- The facts that hold from the call of Check on. -/
structure RunF (w : World) (v : Value) (wr : World) : Prop where
  below : Below w.heap.size w wr
  size : w.heap.size + 2 ≤ wr.heap.size
  box : Blk wr w.heap.size 22 #[v]
  res : Blk wr (w.heap.size + 1) 34 #[.slice none 0 0, .slice none 0 0, .slice none 0 0, .int .i64 0]
def w00 (w : World) (v : Value) : World := (w.alloc (.cells #[v] 22)).alloc (.cells #[.slice none 0 0, .slice none 0 0, .slice none 0 0, .int .i64 0] 34)
theorem runF_start {w w2 : World} {v : Value} (h : Below (w00 w v).heap.size (w00 w v) w2) : RunF w v w2 := by
  have hs : (w00 w v).heap.size = w.heap.size + 2 := by simp [w00]
  rw [hs] at h
  have b0 : Below w.heap.size w (w00 w v) := ((Below.refl _ w).alloc (Nat.le_refl _) _).alloc (by simp) _
  refine ⟨b0.trans (h.mono (by omega)), by have := h.size; omega, ?_, ?_⟩
  · exact Blk.below (((Blk.new w _ _).alloc _) : Blk (w00 w v) _ _ _) h (by omega)
  · exact Blk.below (Blk.new' (w.alloc (.cells #[v] 22)) _ _ (by simp) : Blk (w00 w v) _ _ _) h (by omega)
theorem RunF.cell {w wr : World} {v : Value} (h : RunF w v wr) : wr.cell? ⟨w.heap.size, 0, none⟩ = some v := h.box.at 0 rfl

def hdTo (H : Nat → Value) (k : Nat) : Nat → Value := fun t => if t < k then H t else .slice none 0 0
theorem RowAt.congr {cs : Array Value} {n : Nat} {H H' : Nat → Value} {tks : List Tk} (h : RowAt cs n H tks) (he : ∀ t, t < n → H t = H' t) : RowAt cs n H' tks := ⟨h.1, h.2.1, fun t ht => he t ht ▸ h.2.2 t ht⟩
theorem RowAt.headTo {cs : Array Value} {n k : Nat} {H : Nat → Value} {tks : List Tk} (h : RowAt cs n (hdTo H k) tks) : RowAt (cs.setIfInBounds (k * 10) (H k)) n (hdTo H (k + 1)) tks :=
  (h.head (t := k) (H k)).congr fun t _ => by
    unfold hdTo
    by_cases e : t = k
    · subst e; simp
    · by_cases e2 : t < k
      · simp [e, e2, Nat.lt_succ_of_lt e2]
      · simp [e, e2, show ¬ t < k + 1 by omega]
theorem OwnU.mono {B B' : Nat} {w : World} {v : Value} {C : List Nat} (h : OwnU B w v C) (hb : B' ≤ B) : OwnU B' w v C := by
  refine ⟨⟨h.1.1, ?_⟩, h.2⟩
  rcases h.1.2 with h0 | ⟨g, cap, cur, e, hB, r⟩
  · exact .inl h0
  · exact .inr ⟨g, cap, cur, e, by omega, r⟩
theorem RunF.chg {w w1 w2 : World} {v : Value} {l : List Nat} (h : RunF w v w1) (hc : Chg l w1 w2) (hl : ∀ k ∈ l, w.heap.size + 2 ≤ k) : RunF w v w2 :=
  ⟨below_chg h.below hc (by have := h.size; omega) (fun k hk => by have := hl k hk; omega), by have := h.size; have := hc.size; omega, h.box.chg hc (fun hm => by have := hl _ hm; omega), h.res.chg hc (fun hm => by have := hl _ hm; omega)⟩
theorem RunF.alloc {w w1 : World} {v : Value} (h : RunF w v w1) (o : Obj) : RunF w v (w1.alloc o) := h.chg ((Chg.refl [] w1).alloc o) (by simp)
theorem RunF.set {w w1 : World} {v : Value} (h : RunF w v w1) {g j : Nat} (hg : w.heap.size + 2 ≤ g) (x : Value) : RunF w v (w1.setCell ⟨g, j, none⟩ x) := h.chg (l := [g]) ((Chg.refl _ w1).setCell (.inl (by simp)) x) (by simpa using hg)

/-- What holds at each pick. -/
structure RunL (w : World) (v : Value) (g r : Nat) (cv : Value) (T : List (List Ins)) (C : List Nat) (P : List Int) (H : Nat → Value) (wr : World) (k : Nat) (s : St) (cs : Array Value) : Prop where
  rf : RunF w v wr
  row : Blk wr g 56 cs
  at_ : RowAt cs T.length H s.tks
  own : OwnU (w.heap.size + 2) wr cv s.C
  len : s.C.length = C.length
  rep : Blk wr r 34 #[cv, .slice none 0 0, .slice none 0 0, .int .i64 s.steps]
  fold : runS T C P = (P.drop k).foldl (pickM T) s
  st : s.steps ≤ k
  hg : w.heap.size + 2 ≤ g
  hr : w.heap.size + 2 ≤ r
theorem drop_cons' {P : List Int} {k : Nat} (h : k < P.length) : P.drop k = P.getD k 0 :: P.drop (k + 1) := by rw [List.drop_eq_getElem_cons h]; simp [List.getD, h]
section
variable {w : World} {v : Value} {g r : Nat} {cv : Value} {T : List (List Ins)} {C : List Nat} {P : List Int} {H : Nat → Value} {wr : World} {k : Nat} {s : St} {cs : Array Value}
theorem RunL.skip (h : RunL w v g r cv T C P H wr k s cs) (hk : k < P.length) {q : Nat} (hq : P.getD k 0 = (q : Int)) (hs : stopM T s q = true) (m : Nat) : RunL w v g r cv T C P H (wr.drewN m) (k + 1) s cs := by
  refine ⟨h.rf.chg ((Chg.refl [] wr).drewN m) (by simp), h.row.drewN m, h.at_, h.own.chg ((Chg.refl [] wr).drewN m) (by simp), h.len, h.rep.drewN m, ?_, by have := h.st; omega, h.hg, h.hr⟩
  rw [h.fold, drop_cons' hk, List.foldl_cons, hq]
  congr 1
  show (match stopM T s (q : Int).toNat with | true => _ | false => _) = s
  rw [Int.toNat_natCast, hs]
theorem RunL.step (h : RunL w v g r cv T C P H wr k s cs) (hk : k < P.length) {q : Nat} (hq : P.getD k 0 = (q : Int)) (hqT : q < T.length) (hs : stopM T s q = false) {m : Nat} {w2 : World} {tk : Tk} {C2 : List Nat} {cs2 : Array Value}
    (he : stepM (T.getD q []) 64 (s.tks.getD q tk0) s.C = (tk, C2)) (hb : Blk w2 g 56 cs2) (ht : TkAt cs2 (q * 10) (H q) tk) (ho : SameOut cs cs2 (q * 10)) (hw : OwnU (w.heap.size + 2) w2 cv C2) (hc : Chg (g :: cv.ownBlock.toList) (wr.drewN m).drew w2) (hl : C2.length = s.C.length) :
    RunL w v g r cv T C P H (w2.setCell ⟨r, 3, none⟩ (.int .i64 ((s.steps + 1 : Nat) : Int))) (k + 1) ⟨s.tks.set q tk, C2, s.steps + 1⟩ cs2 := by
  have hgr : g ≠ r := Blk.ne h.row h.rep (by decide)
  have hcr : some r ≠ cv.ownBlock := own_ne h.own.1 h.rep (by decide)
  have hcl := below_own h.own.1
  have hl' : ∀ k ∈ g :: cv.ownBlock.toList, w.heap.size + 2 ≤ k := fun k hk => by
    rcases List.mem_cons.1 hk with rfl | hk
    · exact h.hg
    · exact hcl k (by simpa using hk)
  have hrn : r ∉ g :: cv.ownBlock.toList := fun hm => by
    rcases List.mem_cons.1 hm with e | hm
    · exact hgr e.symm
    · exact hcr (by simpa using (Option.mem_toList.1 hm).symm)
  have hf : RunF w v (wr.drewN m).drew := h.rf.chg (((Chg.refl [] wr).drewN m).drew) (by simp)
  refine ⟨(hf.chg hc hl').set h.hr _, hb.far (by exact hgr) _, h.at_.upd hqT ht ho, hw.chg ((Chg.refl [r] w2).setCell (.inl (by simp)) _) (fun b hb hm => hcr (by rw [hb]; simp at hm; rw [hm])), hl.trans h.len,
    Blk.conv ((((h.rep.drewN m).drew).chg hc hrn).set 3 _) rfl, ?_, by have := h.st; simp; omega, h.hg, h.hr⟩
  rw [h.fold, drop_cons' hk, List.foldl_cons, hq]
  congr 1
  show (match stopM T s (q : Int).toNat with | true => _ | false => _) = _
  rw [Int.toNat_natCast, hs]
  dsimp only
  rw [he]
end

theorem own_own {w : World} {B B' : Nat} {e e' : TypeId} {z z' n n' : Nat} {v v' : Value} {xs xs' : List Value} (h : w.ownsRow B e z v n xs) (h' : w.ownsRow B' e' z' v' n' xs') (hne : e ≠ e') : ∀ b, v.ownBlock = some b → v'.ownBlock ≠ some b := by
  rcases h'.2 with ⟨rfl, _⟩ | ⟨g', cap, cur, rfl, _, hh, _⟩
  · intro b _; simp [Value.ownBlock]
  · intro b hb e
    exact own_ne (cs := cur) h hh hne (by rw [hb, ← e]; rfl)
theorem own_mono {w : World} {B B' : Nat} {e : TypeId} {z n : Nat} {v : Value} {xs : List Value} (h : w.ownsRow B e z v n xs) (hb : B' ≤ B) : w.ownsRow B' e z v n xs := by
  refine ⟨h.1, ?_⟩
  rcases h.2 with h0 | ⟨g, cap, cur, e, hB, r⟩
  · exact .inl h0
  · exact .inr ⟨g, cap, cur, e, by omega, r⟩
/-- What holds as the report is made: so many rows of registers, so many words of done. -/
structure RunD (w : World) (v : Value) (g r : Nat) (cv : Value) (T : List (List Ins)) (s : St) (cs : Array Value) (wr : World) (i j : Nat) (rv dv : Value) : Prop where
  rf : RunF w v wr
  row : Blk wr g 56 cs
  own : OwnU (w.heap.size + 2) wr cv s.C
  rep : Blk wr r 34 #[cv, rv, dv, .int .i64 s.steps]
  regs : wr.ownsRow (w.heap.size + 2) 47 8 rv i ((regsTo s i).flatMap uvl)
  done : wr.ownsRow (w.heap.size + 2) 4 1 dv j ((doneTo T s j).map .bool)
  hr : w.heap.size + 2 ≤ r
section
variable {w : World} {v : Value} {g r : Nat} {cv : Value} {T : List (List Ins)} {C : List Nat} {P : List Int} {H : Nat → Value} {wr : World} {k i j : Nat} {s : St} {cs : Array Value} {rv dv : Value}
theorem RunL.runD (h : RunL w v g r cv T C P H wr k s cs) : RunD w v g r cv T s cs wr 0 0 (.slice none 0 0) (.slice none 0 0) := ⟨h.rf, h.row, h.own, h.rep, World.ownsRow_nil _ _ _ _, World.ownsRow_nil _ _ _ _, h.hr⟩
theorem RunD.chg0 (h : RunD w v g r cv T s cs wr i j rv dv) {w' : World} (hc : Chg [] wr w') : RunD w v g r cv T s cs w' i j rv dv :=
  ⟨h.rf.chg hc (by simp), h.row.chg hc (by simp), h.own.chg hc (by simp), h.rep.chg hc (by simp), own_chg h.regs hc (by simp), own_chg h.done hc (by simp), h.hr⟩
theorem RunD.pushReg (h : RunD w v g r cv T s cs wr i j rv dv) {w1 : World} {g2 cap : Nat} {news : List Value} (hn : news = uvl (s.tks.getD i tk0).regs) (ho : w1.ownsRow (w.heap.size + 2) 47 8 (.slice (some ⟨g2, 0, none⟩) (i + 1) cap) (i + 1) ((regsTo s i).flatMap uvl ++ news))
    (hg : wr.grownBy w1 rv.ownBlock) : RunD w v g r cv T s cs (w1.setCell ⟨r, 1, none⟩ (.slice (some ⟨g2, 0, none⟩) (i + 1) cap)) (i + 1) j (.slice (some ⟨g2, 0, none⟩) (i + 1) cap) dv := by
  have hc : Chg rv.ownBlock.toList wr w1 := Chg.of_grown hg (fun b hb => .inl (by simpa using hb))
  have hl : ∀ k ∈ rv.ownBlock.toList, w.heap.size + 2 ≤ k := fun k hk => below_own h.regs k (by simpa using hk)
  have hr1 : Blk w1 r 34 _ := h.rep.chg hc (fun hm => own_ne h.regs h.rep (by decide) (Option.mem_toList.1 hm).symm)
  have hs : Chg [r] w1 (w1.setCell ⟨r, 1, none⟩ (.slice (some ⟨g2, 0, none⟩) (i + 1) cap)) := (Chg.refl _ _).setCell (.inl (by simp)) _
  have hrow : Blk w1 g 56 cs := h.row.chg hc (fun hm => own_ne h.regs h.row (by decide) (Option.mem_toList.1 hm).symm)
  have hown : OwnU (w.heap.size + 2) w1 cv s.C := h.own.chg hc (fun b hb hm => own_own h.own.1 h.regs (by decide) b hb (Option.mem_toList.1 hm))
  have hdone := own_chg h.done hc (fun b hb hm => own_own h.done h.regs (by decide) b hb (Option.mem_toList.1 hm))
  refine ⟨(h.rf.chg hc hl).set h.hr _, hrow.far (Blk.ne hrow hr1 (by decide)) _, hown.chg hs (fun b hb hm => own_ne hown.1 hr1 (by decide) (by simp at hm; rw [hb, hm])), Blk.conv (hr1.set 1 _) rfl, ?_, own_chg hdone hs (fun b hb hm => own_ne hdone hr1 (by decide) (by simp at hm; rw [hb, hm])), h.hr⟩
  rw [regsTo_succ, List.flatMap_append, List.flatMap_singleton, ← hn]
  exact own_chg ho hs (fun b hb hm => own_ne ho hr1 (by decide) (by simp at hm; rw [hb, hm]))
theorem RunD.pushDone (h : RunD w v g r cv T s cs wr i j rv dv) {w1 : World} {g2 cap : Nat} {news : List Value} (hn : news = [.bool (stopM T s j)]) (ho : w1.ownsRow (w.heap.size + 2) 4 1 (.slice (some ⟨g2, 0, none⟩) (j + 1) cap) (j + 1) ((doneTo T s j).map .bool ++ news))
    (hg : wr.grownBy w1 dv.ownBlock) : RunD w v g r cv T s cs (w1.setCell ⟨r, 2, none⟩ (.slice (some ⟨g2, 0, none⟩) (j + 1) cap)) i (j + 1) rv (.slice (some ⟨g2, 0, none⟩) (j + 1) cap) := by
  have hc : Chg dv.ownBlock.toList wr w1 := Chg.of_grown hg (fun b hb => .inl (by simpa using hb))
  have hl : ∀ k ∈ dv.ownBlock.toList, w.heap.size + 2 ≤ k := fun k hk => below_own h.done k (by simpa using hk)
  have hr1 : Blk w1 r 34 _ := h.rep.chg hc (fun hm => own_ne h.done h.rep (by decide) (Option.mem_toList.1 hm).symm)
  have hs : Chg [r] w1 (w1.setCell ⟨r, 2, none⟩ (.slice (some ⟨g2, 0, none⟩) (j + 1) cap)) := (Chg.refl _ _).setCell (.inl (by simp)) _
  have hrow : Blk w1 g 56 cs := h.row.chg hc (fun hm => own_ne h.done h.row (by decide) (Option.mem_toList.1 hm).symm)
  have hown : OwnU (w.heap.size + 2) w1 cv s.C := h.own.chg hc (fun b hb hm => own_own h.own.1 h.done (by decide) b hb (Option.mem_toList.1 hm))
  have hregs := own_chg h.regs hc (fun b hb hm => own_own h.regs h.done (by decide) b hb (Option.mem_toList.1 hm))
  refine ⟨(h.rf.chg hc hl).set h.hr _, hrow.far (Blk.ne hrow hr1 (by decide)) _, hown.chg hs (fun b hb hm => own_ne hown.1 hr1 (by decide) (by simp at hm; rw [hb, hm])), Blk.conv (hr1.set 2 _) rfl, own_chg hregs hs (fun b hb hm => own_ne hregs hr1 (by decide) (by simp at hm; rw [hb, hm])), ?_, h.hr⟩
  rw [doneTo_succ, List.map_append, List.map_singleton, ← hn]
  exact own_chg ho hs (fun b hb hm => own_ne ho hr1 (by decide) (by simp at hm; rw [hb, hm]))
end
theorem RunD.rep_at {w : World} {v : Value} {g r : Nat} {cv : Value} {T : List (List Ins)} {H : Nat → Value} {wr : World} {n : Nat} {s : St} {cs : Array Value} {rv dv : Value} (h : RunD w v g r cv T s cs wr n n rv dv) (hn : T.length = n) (ht : RowAt cs T.length H s.tks) (hs : s.steps ≤ 1048576) {X : Array Value} :
    RepAt w.heap.size (wr.setRow (w.heap.size + 1) X) cv rv dv (repOf T s) := by
  have hc : Chg [w.heap.size + 1] wr (wr.setRow (w.heap.size + 1) X) := (Chg.refl _ _).setRow (.inl (by simp)) _
  have hx : ∀ {v : Value} {e : TypeId} {z n : Nat} {xs : List Value}, wr.ownsRow (w.heap.size + 2) e z v n xs → ∀ b, v.ownBlock = some b → b ∉ [w.heap.size + 1] := fun h b hb hm => by
    have := below_own h b hb
    simp at hm; omega
  subst hn
  refine ⟨(h.own.chg hc (hx h.own.1)).mono (by omega), ?_, fun l hl => ?_, ?_, hs⟩
  · show World.ownsRow _ _ 47 8 rv (regsTo s T.length).length _
    rw [regsTo_len]
    exact own_mono (own_chg h.regs hc (hx h.regs)) (by omega)
  · obtain ⟨t, ht2, rfl⟩ := List.mem_map.1 hl
    have := ht.2.2 t (List.mem_range.1 ht2)
    exact ⟨this.len, this.lt⟩
  · show World.ownsRow _ _ 4 1 dv (doneTo T s T.length).length _
    rw [doneTo_len]
    exact own_mono (own_chg h.done hc (hx h.done)) (by omega)
theorem list8 {l : List Nat} (h : l.length = 8) : l = [l.getD 0 0, l.getD 1 0, l.getD 2 0, l.getD 3 0, l.getD 4 0, l.getD 5 0, l.getD 6 0, l.getD 7 0] := by
  match l, h with
  | [a, b, c, d, e, f, g, i], _ => rfl
theorem cell_uvl8 (w : World) (x0 x1 x2 x3 x4 x5 x6 x7 : Nat) : ∀ j u, (uvl [x0, x1, x2, x3, x4, x5, x6, x7])[j]? = some u → (w.alloc (.cells #[.int .u64 x0, .int .u64 x1, .int .u64 x2, .int .u64 x3, .int .u64 x4, .int .u64 x5, .int .u64 x6, .int .u64 x7] 47)).drew.cell? ((⟨w.heap.size, 0, none⟩ : Addr).add j) = some u := fun j u hu => by
  rw [Addr.add_lit, Nat.zero_add]
  refine ((Blk.new w 47 _).drew).at j ?_
  rw [← hu]
  simp [uvl]
theorem cell_one_new' (w : World) (m : Nat) (x : Value) : ∀ j u, [x][j]? = some u → ((w.drewN (1 + m)).alloc (.cells #[x] 4)).cell? ((⟨w.heap.size, 0, none⟩ : Addr).add j) = some u := fun j u hu => by
  have := cell_one_new (w.drewN (1 + m)) x 4 j u hu
  rwa [show (w.drewN (1 + m)).heap.size = w.heap.size by simp] at this
theorem Try.info47 : (Try.prog.info? 47).map (fun i => (i.zero, i.size, i.bytes)) = some (some (.agg #[.int .u64 0, .int .u64 0, .int .u64 0, .int .u64 0, .int .u64 0, .int .u64 0, .int .u64 0, .int .u64 0]), 8, 64) := by kernel_rfl
theorem Try.info4 : (Try.prog.info? 4).map (fun i => (i.zero, i.size, i.bytes)) = some (some (.bool false), 1, 1) := by kernel_rfl

set_option maxRecDepth 100000 in
set_option maxHeartbeats 4000000 in
theorem run_any (w : World) (ta ca pa : Option Addr) (tn tc cn cc pn pc : Nat) (T : List (List Ins)) (C : List Nat) (P : List Int) (hT : T.length = tn) (hC : C.length = cn) (hP : P.length = pn) (hln : tn ≤ 9223372036854775807 ∧ cn ≤ 9223372036854775807 ∧ pn ≤ 9223372036854775807)
    (hrt : RdT w w.heap.size ta T) (hrc : RdU w w.heap.size ca C) (hrp : RdN w w.heap.size pa P) :
    Calls Try.prog 13 #[.slice ta tn tc, .slice ca cn cc, .slice pa pn pc] w (RunPost w (runM T C P)) := by
  have hck : Calls Try.prog 11 #[.slice ta tn tc, .int .i64 cn] (w00 w (.slice ta tn tc)) fun e w' => e = .returned (tup3 (chk T C.length)) ∧ RunF w (.slice ta tn tc) w' := by
    have hB := (hrt.below (((Below.refl _ w).alloc (Nat.le_refl _) (.cells #[.slice ta tn tc] 22)).alloc (by simp) (.cells #[.slice none 0 0, .slice none 0 0, .slice none 0 0, .int .i64 0] 34))).mono (B' := (w00 w (.slice ta tn tc)).heap.size) (by simp [w00]; omega)
    have hck := check_any (w00 w (.slice ta tn tc)) ta tn tc T hT hln.1 hB cn
    rw [hC]
    exact hck.mono fun e w' ⟨h1, h2⟩ => ⟨h1, runF_start h2⟩
  unfold w00 tup3 at hck
  by_cases h1 : (chk T C.length).2.2 = 0
  case neg =>
    have hr := runM_err (P := P) h1
    generalize chk T C.length = ck at hck hr h1
    obtain ⟨c1, c2, c3⟩ := ck
    dsimp only at h1 hr hck
    generalize runM T C P = R at hr ⊢
    subst hr
    clear hrt hrc hrp
    go_enter Try.func13, Try.ntmps13
    have hb : (c3 != 0) = true := by simpa using h1
    have hone : (#[Value.slice none 0 0, .slice none 0 0, .slice none 0 0, .int .i64 0] : Array Value).all (·.oneCell') = true := by kernel_rfl
    go_wp2_with (first
      | (go_at_call 11; refine hck.mono ?_; rintro e w2 ⟨rfl, rf⟩)
      | (refine wpList_store_blk rfl 34 _ _ rfl (w.heap.size + 1) #[.slice none 0 0, .slice none 0 0, .slice none 0 0, .int .i64 0] rfl rfl rf.res row34 rfl hone ?_))
    refine bodyPost_ret (results_blk2 rfl _ _ (w.heap.size + 1) rfl (rf.res.setRow _) row34) rfl ⟨.slice none 0 0, .slice none 0 0, .slice none 0 0, rfl, repAt_nil _ _, below_setRow rf.below (by omega) _⟩
  case pos =>
    have hone : (#[Value.slice none 0 0, .slice none 0 0, .slice none 0 0, .int .i64 0] : Array Value).all (·.oneCell') = true := by kernel_rfl
    have hok := chk_ok h1
    have hck2 := hck
    obtain ⟨c1, c2, hck⟩ : ∃ c1 c2 : Nat, Calls Try.prog 11 #[.slice ta tn tc, .int .i64 cn] ((w.alloc (.cells #[.slice ta tn tc] 22)).alloc (.cells #[.slice none 0 0, .slice none 0 0, .slice none 0 0, .int .i64 0] 34)) fun e w' => e = .returned (.tuple #[.int .i64 c1, .int .i64 c2, .int .i64 0]) ∧ RunF w (.slice ta tn tc) w' := ⟨(chk T C.length).1, (chk T C.length).2.1, by rw [h1] at hck; exact hck⟩
    clear hck2
    have H1 := Lib.hid h1
    clear h1
    by_cases h2 : 1048576 < P.length
    · have hr := runM_long (T := T) (C := C) (P := P) H1.out h2
      rw [hP] at h2
      generalize runM T C P = R at hr ⊢
      subst hr
      clear hrt hrc hrp
      go_enter Try.func13, Try.ntmps13
      go_wp2_with (first
        | (go_at_call 11; refine hck.mono ?_; rintro e w2 ⟨rfl, rf⟩)
        | (refine wpList_store_blk rfl 34 _ _ rfl (w.heap.size + 1) #[.slice none 0 0, .slice none 0 0, .slice none 0 0, .int .i64 0] rfl rfl rf.res row34 rfl hone ?_))
      refine bodyPost_ret (results_blk2 rfl _ _ (w.heap.size + 1) rfl (rf.res.setRow _) row34) rfl ⟨.slice none 0 0, .slice none 0 0, .slice none 0 0, rfl, repAt_nil _ _, below_setRow rf.below (by omega) _⟩
    have hrest := runM_rest (T := T) (C := C) (P := P) H1.out h2
    have hcf := fun W (h : RunF w (.slice ta tn tc) W) => containsFunc_any W w.heap.size pa pn pc P (fun x => decide (x < 0 ∨ (tn : Int) ≤ x)) (.pointer (some ⟨w.heap.size, 0, none⟩)) hP.symm (by omega) (hrp.below h.below) (fun x => pick_any W w.heap.size ta tn tc h.cell x)
    rw [hT] at hrest
    cases hany : P.any fun x => decide (x < 0 ∨ (tn : Int) ≤ x) with
    | true =>
      rw [hany] at hrest hcf
      dsimp only at hrest
      generalize runM T C P = R at hrest ⊢
      subst hrest
      clear hrt hrc hrp hany
      rw [hP] at h2
      go_enter Try.func13, Try.ntmps13
      go_wp2_with (first
        | (go_at_call 23; refine (hcf _ rf).mono ?_; rintro e w3 ⟨rfl, rfl⟩)
        | (go_at_call 11; refine hck.mono ?_; rintro e w2 ⟨rfl, rf⟩)
        | (refine wpList_store_blk rfl 34 _ _ rfl (w.heap.size + 1) #[.slice none 0 0, .slice none 0 0, .slice none 0 0, .int .i64 0] rfl rfl rf.res row34 rfl hone ?_))
      refine bodyPost_ret (results_blk2 rfl _ _ (w.heap.size + 1) rfl (rf.res.setRow _) row34) rfl ⟨.slice none 0 0, .slice none 0 0, .slice none 0 0, rfl, repAt_nil _ _, below_setRow rf.below (by omega) _⟩
    | false =>
      rw [hany] at hrest hcf
      dsimp only at hrest
      have hpick : ∀ k, k < P.length → 0 ≤ P.getD k 0 ∧ P.getD k 0 < (tn : Int) := fun k hk => by
        have := List.any_eq_false.1 hany (P.getD k 0) (by rw [List.getD, List.getElem?_eq_getElem hk]; exact List.getElem_mem _)
        simp only [decide_eq_true_eq] at this
        omega
      obtain ⟨at_, ct, ln, hln2, hch⟩ := rdT_choose hrt
      have HL := Lib.hid hln2
      clear hln2
      have HR := Lib.hid hrest
      clear hrt hrest hany
      generalize runM T C P = R at HR ⊢
      rw [hP] at h2
      go_enter Try.func13, Try.ntmps13
      obtain ⟨i0, hi, hz0, hz1, hz2⟩ := info_parts Try.info56
      have htn : tn ≤ 4096 := by have := hok.1; omega
      have hmk : ∀ W, (Instr.makeSlice 54 (.int .i64 (tn : Int)) (.int .i64 (tn : Int))).run Try.prog W = .ok (.slice (some ⟨W.heap.size, 0, none⟩) tn tn) (W.alloc (.cells (madeCells zTask (tn * 10)) 56)) := fun W => by
        have := run_make (P := Try.prog) W 54 56 i0 (.agg zTask) (by kernel_rfl) hi hz0 .i64 .i64 tn tn (by omega) (by omega) (by rw [hz2]; omega) (by omega)
        rw [hz1] at this
        simp only [Int.toNat_natCast] at this
        exact this
      have HMK := hmk
      clear hmk
      go_wp2_with (first
        | (go_at_call 23; refine (hcf _ rf).mono ?_; rintro e w3 ⟨rfl, rfl⟩; have hbox := rf.cell; have hbox2 := (rf.box.alloc (.cells (madeCells zTask (tn * 10)) 56)).at 0 rfl)
        | (go_at_call 11; refine hck.mono ?_; rintro e w2 ⟨rfl, rf⟩))
      have gsz := rf.size
      generalize hG : w2.heap.size = g at *
      go_loopg [43] tn (fun gn i wr => ∃ (k : Nat) (cs : Array Value), k ≤ tn ∧ i = .int .i64 k ∧ gn = tn - k ∧ Blk wr g 56 cs ∧ RowAt cs tn (hdTo (fun t => .slice (at_ t) (ln t) (ct t)) k) (List.replicate tn tk0) ∧ RunF w (.slice ta tn tc) wr)
      case atStart =>
        refine ⟨0, _, Nat.zero_le _, rfl, rfl, Blk.new' _ _ _ hG.symm, (rowAt_made tn).congr fun t _ => ?_, rf.alloc _⟩
        simp [hdTo]
      case round =>
        obtain ⟨k, cs, hk, rfl, rfl, hB, hRow, hF⟩ := hrel
        by_cases hkt : k < tn
        · obtain ⟨b, off, rfl, hb, hc0, _⟩ := hch k (by omega)
          have hc := (hF.below.cell (p := ⟨b, _, none⟩) hb).trans hc0
          clear hc0
          have hcc := hB.at (k * 10) (hRow.2.2 k hkt).hd
          have hfr := hB.free (k * 10)
          have hnew := Lib.hid hRow.headTo
          clear hRow
          go_wp2
          go_roundg (tn - (k + 1))
          case rel =>
            exact ⟨k + 1, _, by omega, by go_num, rfl, hB.set (k * 10) _, hnew.out, hF.set gsz _⟩
          case measure => omega
        · obtain rfl : tn = k := by omega
          have hRow := hRow.congr (H' := fun t => .slice (at_ t) (ln t) (ct t)) fun t ht => by simp [hdTo, ht]
          have hcl := clone_any wr w.heap.size ca cn cc C hC (by have := hok.2.2.1; omega) (by have := hF.size; omega) (fun j hj => (hrc.below hF.below) j hj)
          have HF := Lib.hid hF
          have HB := Lib.hid hB
          have HRow := Lib.hid hRow
          clear hF hB hRow
          go_wp2_with (first
            | (refine wpList_store_blk rfl 34 _ _ rfl w4.heap.size #[.slice ca' C.length ccap, .slice none 0 0, .slice none 0 0, .int .i64 0] rfl rfl (Blk.new _ _ _) row34 rfl (by rfl) ?_)
            | (go_at_call 25; refine hcl.mono ?_; rintro e w4 ⟨cv, rfl, hown, hbel⟩; obtain ⟨ca', ccap, rfl, hccap⟩ := own_form hown.1))
          have hr0 : w.heap.size + 2 ≤ w4.heap.size := by have := hbel.size; have := HF.out.size; omega
          rw [hC] at hown
          have bA : Below wr.heap.size wr (w4.alloc (.cells #[.slice ca' cn ccap, .slice none 0 0, .slice none 0 0, .int .i64 0] 34)) := hbel.alloc hbel.size _
          have L0 : RunL w (.slice ta tn tc) g w4.heap.size (.slice ca' cn ccap) T C P (fun t => .slice (at_ t) (ln t) (ct t)) (w4.alloc (.cells #[.slice ca' cn ccap, .slice none 0 0, .slice none 0 0, .int .i64 0] 34)) 0 (st0 T C) cs :=
            ⟨HF.out.chg (Chg.of_below bA []) (by simp), HB.out.below bA HB.out.lt, by rw [hT]; show RowAt cs tn _ (List.replicate T.length tk0); rw [hT]; exact HRow.out, (hown.new _).mono HF.out.size, rfl, Blk.new _ _ _, rfl, Nat.le_refl _, gsz, hr0⟩
          clear HF HB HRow hown hbel bA hRow hck hcf HMK hbox hbox2 hcl rf
          generalize w4.heap.size = r at *
          generalize (Value.slice ca' cn ccap) = cv at *
          go_loopg [59] pn (fun gn i wr => ∃ (k : Nat) (s : St) (cs : Array Value), k ≤ pn ∧ i = .int .i64 k ∧ gn = pn - k ∧ RunL w (.slice ta tn tc) g r cv T C P (fun t => .slice (at_ t) (ln t) (ct t)) wr k s cs)
          case atStart => exact ⟨0, _, _, Nat.zero_le _, rfl, rfl, L0⟩
          case round =>
            clear L0
            obtain ⟨k, s, cs, hk, rfl, rfl, hL⟩ := hrel
            by_cases hkp : k < pn
            · have hkP : k < P.length := by omega
              obtain ⟨q, hq⟩ : ∃ q : Nat, P.getD k 0 = (q : Int) := ⟨(P.getD k 0).toNat, by have := hpick k hkP; omega⟩
              have hqt : q < tn := by have := hpick k hkP; omega
              obtain ⟨b, off, rfl, hb, hc0⟩ := hrp k hkP
              have hc := (hL.rf.below.cell (p := ⟨b, _, none⟩) hb).trans hc0
              rw [hq] at hc
              have hq2 : (0 : Int) ≤ (q : Int) := by omega
              have hq3 : (q : Int) < (tn : Int) := by omega
              have htk := hL.at_.2.2 q (by omega)
              have hd := done_any wr g (q * 10) (at_ q) (ln q) (ct q) (s.tks.getD q tk0).pos (hL.row.at _ htk.hd) (hL.row.at _ htk.pos)
              have hstop : decide (ln q ≤ (s.tks.getD q tk0).pos) = stopM T s q := by rw [HL.out]; rfl
              rw [hstop] at hd
              have HLr := Lib.hid hL
              cases hs : stopM T s q with
              | true =>
                have hnext := Lib.hid (fun m => hL.skip hkP hq hs m)
                rw [hs] at hd
                clear hc0 hq hkP htk hs hL hstop
                go_wp2_with (go_at_call 26; refine hd.mono ?_; rintro e w5 ⟨rfl, m, rfl⟩)
                go_roundg (pn - (k + 1))
                case rel => exact ⟨k + 1, s, cs, by omega, by go_num, rfl, hnext.out m⟩
                case measure => omega
              | false =>
                rw [hs] at hd
                obtain ⟨hct1, hri⟩ : ln q ≤ ct q ∧ RdI w w.heap.size (at_ q) (T.getD q []) := by
                  obtain ⟨_, _, _, _, _, h1, _, h3⟩ := hch q (by omega)
                  exact ⟨h1, h3⟩
                have hlT : (T.getD q []) ∈ T := by rw [List.getD, List.getElem?_eq_getElem (by omega)]; exact List.getElem_mem _
                have hcr : some r ≠ cv.ownBlock := own_ne hL.own.1 hL.rep (by decide)
                have hgr : g ≠ r := Blk.ne hL.row hL.rep (by decide)
                have hgc : ∀ b, cv.ownBlock = some b → b ≠ g := fun b hb e => own_ne hL.own.1 hL.row (by decide) (by rw [hb, e])
                have hnr : r ∉ g :: cv.ownBlock.toList := fun hm => by
                  rcases List.mem_cons.1 hm with e | hm
                  · exact hgr e.symm
                  · exact hcr (Option.mem_toList.1 hm).symm
                have hok2 := hok.2.2.2 _ hlT
                have htk2 : TkAt cs (q * 10) (.slice (at_ q) (T.getD q []).length (ct q)) (s.tks.getD q tk0) := by rw [← HL.out]; exact htk
                have hst := fun m => step_any ((wr.drewN m).drew) g (q * 10) (w.heap.size + 2) cv (at_ q) (ct q) (T.getD q []) (s.tks.getD q tk0) s.C cs ((hL.row.drewN m).drew) htk2 (hL.own.chg (((Chg.refl [] wr).drewN m).drew) (by simp)) hgc hok2.1 (by rw [← HL.out]; exact hct1)
                  (by rw [hL.len]; exact hok2.2) (by rw [hL.len]; have := hok.2.2.1; omega) w.heap.size (hri.below (below_drewN hL.rf.below m).drew) (by omega) (by omega) (by have := hL.rf.size; simp; omega)
                have r0 : ∀ m, ((wr.drewN m).drew).cell? ⟨r, 0, none⟩ = some cv := fun m => ((hL.rep.drewN m).drew).at 0 rfl
                have hadd : IntKind.i64.wrap ((s.steps : Int) + 1) = ((s.steps + 1 : Nat) : Int) := by rw [IntKind.wrap_i64]; have := hL.st; omega
                have hr3 := fun m w6 (hc : Chg (g :: cv.ownBlock.toList) (wr.drewN m).drew w6) => (((hL.rep.drewN m).drew).chg hc hnr)
                have hqT : q < T.length := by omega
                have hnext := Lib.hid (fun (m : Nat) (w2 : World) (tk : Tk) (C2 : List Nat) (cs2 : Array Value) => hL.step (m := m) (w2 := w2) (tk := tk) (C2 := C2) (cs2 := cs2) hkP hq hqT hs)
                clear hc0 hq hkP htk htk2 hs hL hstop hri hok2 hlT hgc hcr hct1 hch hok hrp hrc hpick
                go_upto_region 19 with (go_at_call 26; refine hd.mono ?_; rintro e w5 ⟨rfl, m, rfl⟩)
                have hst := hst m
                have r0 := r0 m
                go_region_held3 (fun w' => w'.cell? ⟨r, 0, none⟩ = some cv) (first | exact r0 | exact rb0)
                  (first | (go_at_call 27; refine hst.mono ?_; rintro e w6 ⟨rfl, tk, C2, cs2, he, hb6, ht6, ho6, hw6, hc6, hl6⟩; have r3 : w6.cell? ⟨r, 3, none⟩ = some (.int .i64 s.steps) := (hr3 _ _ hc6).at 3 rfl; have f3 := (hr3 _ _ hc6).free 3; have rb0 : w6.cell? ⟨r, 0, none⟩ = some cv := (hr3 _ _ hc6).at 0 rfl))
                go_wp2
                go_roundg (pn - (k + 1))
                case rel => exact ⟨k + 1, _, _, by omega, by go_num, rfl, hnext.out _ _ _ _ _ he hb6 (by show TkAt cs2 (q * 10) (.slice (at_ q) (ln q) (ct q)) tk; rw [HL.out]; exact ht6) ho6 hw6 hc6 hl6⟩
                case measure => omega
            · obtain rfl : pn = k := by omega
              have hfold := hL.fold
              rw [List.drop_of_length_le (by omega), List.foldl_nil] at hfold
              have D0 := hL.runD
              have HD := Lib.hid hL.at_
              have hR := HR.out
              rw [hfold] at hR
              have HR2 := Lib.hid hR
              have hst := hL.st
              clear hL hfold hch hok hrp hrc hpick hR HR
              obtain ⟨i1, hi1, hy0, hy1, hy2⟩ := info_parts Try.info47
              obtain ⟨i2, hi2, hx0, hx1, hx2⟩ := info_parts Try.info4
              have HI1 := Lib.hid hi1
              have HI2 := Lib.hid hi2
              clear hi1 hi2
              go_wp2
              go_loopg [81] tn (fun gn i wr => ∃ (j : Nat) (rv dv : Value), j ≤ tn ∧ i = .int .i64 j ∧ gn = tn - j ∧ RunD w (.slice ta tn tc) g r cv T s cs wr j j rv dv)
              case atStart => exact ⟨0, _, _, Nat.zero_le _, rfl, rfl, D0⟩
              case round =>
                clear D0
                obtain ⟨j, rv, dv, hj, rfl, rfl, hD⟩ := hrel
                by_cases hjt : j < tn
                · have htk := HD.out.2.2 j (by omega)
                  obtain ⟨hl8, hlt8, hreg8⟩ : (s.tks.getD j tk0).regs.length = 8 ∧ (∀ k, (s.tks.getD j tk0).regs.getD k 0 < 18446744073709551616) ∧ ∀ k, k < 8 → wr.drew.cell? ⟨g, j * 10 + 1 + k, none⟩ = some (.int .u64 ((s.tks.getD j tk0).regs.getD k 0 : Nat)) := ⟨htk.len, htk.lt, fun k hk => hD.row.drew.at _ (htk.reg k hk)⟩
                  have hl := list8 hl8
                  have hd1 := fun W (hB : Blk W g 56 cs) => done_any W g (j * 10) (at_ j) (ln j) (ct j) (s.tks.getD j tk0).pos (hB.at _ htk.hd) (hB.at _ htk.pos)
                  have hstop : decide (ln j ≤ (s.tks.getD j tk0).pos) = stopM T s j := by rw [HL.out]; rfl
                  rw [hstop] at hd1
                  clear hstop htk hl8
                  have HRG := Lib.hid hl
                  have q0 := hreg8 0 (by omega)
                  have q1 := hreg8 1 (by omega)
                  have q2 := hreg8 2 (by omega)
                  have q3 := hreg8 3 (by omega)
                  have q4 := hreg8 4 (by omega)
                  have q5 := hreg8 5 (by omega)
                  have q6 := hreg8 6 (by omega)
                  have q7 := hreg8 7 (by omega)
                  clear hreg8 hl hlt8
                  generalize hRG : (s.tks.getD j tk0).regs = RG at *
                  generalize RG.getD 0 0 = x0 at *
                  generalize RG.getD 1 0 = x1 at *
                  generalize RG.getD 2 0 = x2 at *
                  generalize RG.getD 3 0 = x3 at *
                  generalize RG.getD 4 0 = x4 at *
                  generalize RG.getD 5 0 = x5 at *
                  generalize RG.getD 6 0 = x6 at *
                  generalize RG.getD 7 0 = x7 at *
                  have r1 : wr.drew.cell? ⟨r, 1, none⟩ = some rv := hD.rep.drew.at 1 rfl
                  have hregs0 := hD.regs
                  have hL1 : (0 : Int) ≤ (j : Int) := by omega
                  have hL2 : (j : Int) < (tn : Int) := by omega
                  go_upto_region 25 with fail
                  have DA := hD.chg0 (((Chg.refl [] wr).alloc (.cells #[.int .u64 x0, .int .u64 x1, .int .u64 x2, .int .u64 x3, .int .u64 x4, .int .u64 x5, .int .u64 x6, .int .u64 x7] 47)).drew)
                  have ra1 : (wr.alloc (.cells #[.int .u64 x0, .int .u64 x1, .int .u64 x2, .int .u64 x3, .int .u64 x4, .int .u64 x5, .int .u64 x6, .int .u64 x7] 47)).drew.cell? ⟨r, 1, none⟩ = some rv := DA.rep.at 1 rfl
                  have HDA := Lib.hid DA
                  have hrs : w.heap.size + 2 ≤ wr.heap.size := hD.rf.size
                  have hn8 := cell_uvl8 wr x0 x1 x2 x3 x4 x5 x6 x7
                  have HDD := Lib.hid hD
                  clear DA hD
                  go_region_law (refine step_append_lies _ rfl (.tmp 85) (.tmp 91) 31 rfl (w.heap.size + 2) 47 i1 (.agg #[.int .u64 0, .int .u64 0, .int .u64 0, .int .u64 0, .int .u64 0, .int .u64 0, .int .u64 0, .int .u64 0]) 8 64 (by kernel_rfl) HI1.out hy0 hy1 hy2 rfl (by decide) rv j ((regsTo s j).flatMap uvl) rfl HDA.out.regs ⟨wr.heap.size, 0, none⟩ 1 1 (uvl [x0, x1, x2, x3, x4, x5, x6, x7]) rfl rfl hn8 (by intro u hu; obtain ⟨_, _, rfl⟩ := List.mem_map.1 hu; rfl) (by decide) (by unfold maxLen; omega) (by omega) (by simp; omega) _ rfl ?_; intro g2 cap2 w7 ho7 hg7 hb7 hl7; have r7 := HDA.out.rep.chg (Chg.of_grown (l := rv.ownBlock.toList) hg7 (fun b hb => .inl (by simpa using hb))) (fun hm => own_ne HDA.out.regs HDA.out.rep (by decide) (Option.mem_toList.1 hm).symm); have f7 := r7.free 1; have k7 := r7.at 1 rfl)
                  all_goals
                    have D7 := Lib.hid (HDA.out.pushReg (by rw [hRG, HRG.out]) ho7 hg7)
                    clear r1 ra1 q0 q1 q2 q3 q4 q5 q6 q7 hn8 hregs0 HDA HDD HRG ho7 hg7 hb7 hl7 r7 f7 k7 hrs
                    generalize (w7.setCell ⟨r, 1, none⟩ (.slice (some ⟨g2, 0, none⟩) (j + 1) cap2)) = W8 at D7 ⊢
                    generalize (Value.slice (some ⟨g2, 0, none⟩) (j + 1) cap2) = rv8 at D7 ⊢
                    have r2 : ∀ l, Chg [] W8 l → l.cell? ⟨r, 2, none⟩ = some dv := fun l hc => (D7.out.chg0 hc).rep.at 2 rfl
                  all_goals go_upto_region 26 with fail
                  all_goals
                    have r20 : W8.drew.cell? ⟨r, 2, none⟩ = some dv := r2 _ ((Chg.refl [] _).drew)
                    have B8 : Blk W8.drew g 56 cs := D7.out.row.drew
                    have hd1 := hd1 _ B8
                  all_goals go_region_law (first
                    | (refine step_append_lies _ rfl (.tmp 95) (.tmp 100) 32 rfl (w.heap.size + 2) 4 i2 (.bool false) 1 1 (by kernel_rfl) HI2.out hx0 hx1 hx2 rfl (by decide) dv j ((doneTo T s j).map .bool) rfl D8.out.done ⟨W8.heap.size, 0, none⟩ 1 1 [.bool (stopM T s j)] rfl rfl hn1 (by intro u hu; simp at hu; subst hu; rfl) (by decide) (by unfold maxLen; omega) (by omega) D8.out.rf.size _ rfl ?_; intro g3 cap3 w9 ho9 hg9 hb9 hl9; have c9 := Chg.of_grown (l := dv.ownBlock.toList) hg9 (fun b hb => .inl (Option.mem_toList.2 hb)); have n9 : r ∉ dv.ownBlock.toList := (fun hm => own_ne D8.out.done D8.out.rep (by decide) (Option.mem_toList.1 hm).symm); have r9 := D8.out.rep.chg c9 n9; have f9 := r9.free 2; have k9 := r9.at 2 rfl)
                    | (rw [if_pos (by rfl)]; go_simp; go_at_call 26; refine hd1.mono ?_; rintro e w8 ⟨rfl, m, rfl⟩; dsimp only; have r21 : (W8.drew.drewN m).cell? ⟨r, 2, none⟩ = some dv := r2 _ (((Chg.refl [] _).drew).drewN m); have r23 : (W8.drewN (1 + m)).cell? ⟨r, 2, none⟩ = some dv := r2 _ ((Chg.refl [] _).drewN (1 + m)); have r22 : ((W8.drewN (1 + m)).alloc (.cells #[.bool (stopM T s j)] 4)).cell? ⟨r, 2, none⟩ = some dv := r2 _ (((Chg.refl [] _).drewN (1 + m)).alloc _); have D8 := Lib.hid (D7.out.chg0 (((Chg.refl [] _).drewN (1 + m)).alloc (.cells #[.bool (stopM T s j)] 4))); have hn1 := cell_one_new' W8 m (.bool (stopM T s j))))
                  all_goals
                    have D9 := Lib.hid (D8.out.pushDone rfl ho9 hg9)
                    clear D8 D7 r2 r20 B8 hd1 hn1 c9 n9 r9 r21 r22 r23
                    go_wp2
                    go_roundg (tn - (j + 1))
                    case rel => exact ⟨j + 1, _, _, by omega, by go_num, rfl, D9.out⟩
                    case measure => omega
                · obtain rfl : tn = j := by omega
                  have hrep := hD.rep_at (X := #[cv, rv, dv, .int .i64 s.steps]) (by rw [hT]) HD.out (by omega)
                  have hone2 : (#[cv, rv, dv, .int .i64 s.steps] : Array Value).all (·.oneCell') = true := by
                    obtain ⟨a1, b1, e1, _⟩ := own_form hD.own.1
                    obtain ⟨a2, b2, e2, _⟩ := own_form hD.regs
                    obtain ⟨a3, b3, e3, _⟩ := own_form hD.done
                    rw [e1, e2, e3]
                    kernel_rfl
                  have hres := hD.rf.res
                  have hbl := hD.rf.below
                  have hrepB := hD.rep
                  go_wp2_with (first
                    | (refine wpList_load_blk rfl 34 _ rfl r rfl hrepB row34 ?_)
                    | (refine wpList_store_blk rfl 34 _ _ rfl (w.heap.size + 1) #[cv, rv, dv, .int .i64 s.steps] rfl rfl hres row34 rfl hone2 ?_))
                  refine bodyPost_ret (results_blk2 rfl _ _ (w.heap.size + 1) rfl (hres.setRow _) row34) rfl ?_
                  rw [HR2.out]
                  exact ⟨cv, rv, dv, rfl, hrep, below_setRow hbl (by omega) _⟩

end Go.Proofs.Ytlcgighhiacnpaa
