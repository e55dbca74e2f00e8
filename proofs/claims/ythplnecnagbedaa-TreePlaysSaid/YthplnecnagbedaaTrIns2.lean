/- slices.Insert of one leaf into a row of leaves by contract; conditions: the row is the call's own, the leaf's pointer lies in a block of its own. -/
import Derived.Test.YthplnecnagbedaaTrIns
import Derived.Laws.CopyOwn
import Derived.Deep.RegionLaw
import Derived.Lib.Overlaps
import Derived.Laws.Externs
namespace Go.Proofs.Ythplnecnagbedaa
open Go.RowKit

theorem Try.info109 : (Try.prog.info? 109).map (fun i => (i.zero, i.size, i.bytes)) = some (some (.pointer none), 1, 8) := by kernel_rfl
theorem Try.underlying104' : Try.prog.underlying 104 = some (.slice 109) := by kernel_rfl
/-- A row with one more. -/
def InsPost (w : World) (B : Nat) (v : Value) (n : Nat) (ys : List Value) (e : Ending) (w' : World) : Prop :=
  ∃ a' k', e = .returned (.slice a' (n + 1) k') ∧ w'.ownsRow B 109 1 (.slice a' (n + 1) k') (n + 1) ys ∧ w.grownBy w' v.ownBlock ∧ ((Value.slice a' (n + 1) k').ownBlock = v.ownBlock ∨ (Value.slice a' (n + 1) k').ownBlock = some w.heap.size)
set_option maxRecDepth 100000 in
set_option maxHeartbeats 1000000 in
theorem insert_end (w : World) (B : Nat) (a : Option Addr) (n k : Nat) (xs : List Value) (hown : w.ownsRow B 109 1 (.slice a n k) n xs) (hB : B ≤ w.heap.size) (hn : n ≤ 100000) (vb : Nat) (p : Value) (hp1 : p.oneCell' = true) (hv : Blk w vb 109 #[p]) :
    Calls Try.prog 77 #[.slice a n k, .int .i64 n, .slice (some ⟨vb, 0, none⟩) 1 1] w (InsPost w B (.slice a n k) n (xs ++ [p])) := by
  obtain ⟨i0, hi, hz0, hz1, hz2⟩ := info_parts Try.info109
  have HINF := Lib.hid hi
  have hk := own_cap hown
  obtain ⟨hk1, hk2⟩ := hk
  have HO := Lib.hid hown
  have hform : a = none ∨ ∃ g, a = some ⟨g, 0, none⟩ := by
    rcases hown.2 with ⟨e, _⟩ | ⟨g, cap, cur, e, _⟩
    · injection e with e; exact .inl e
    · injection e with e; exact .inr ⟨g, e⟩
  have hk0 : a = none → n = 0 ∧ k = 0 := fun ha => by
    rcases hown.2 with ⟨e, h0⟩ | ⟨g, cap, cur, e, _⟩
    · injection e with _ _ e2; exact ⟨h0, e2⟩
    · injection e with e; rw [ha] at e; cases e
  clear hi hown
  rcases hform with rfl | ⟨g, rfl⟩
  · obtain ⟨rfl, rfl⟩ := hk0 rfl
    clear hk0
    go_enter Try.func77, Try.ntmps77
    go_wp2_with (at_builtin; refine wpList_append_ap rfl (.tmp 23) (.tmp 24) 104 rfl B 109 i0 (.pointer none) 1 8 Try.underlying104' HINF.out hz0 hz1 hz2 rfl (by decide) _ 0 _ rfl HO.out (some ⟨vb, 0, none⟩) 1 1 [p] rfl rfl (news_blk hv) (by intro u hu; simp at hu; subst hu; exact hp1) 1 rfl _ rfl (by unfold maxLen; omega) (by omega) hB ?_; intro a7 k7 w7 hown7 hgr7 hat7)
    go_ret
    exact ⟨a7, k7, rfl, hown7, hgr7, hat7⟩
  · clear hk0
    go_enter Try.func77, Try.ntmps77
    go_wp2_with (at_builtin; refine wpList_append_ap rfl (.tmp 23) (.tmp 24) 104 rfl B 109 i0 (.pointer none) 1 8 Try.underlying104' HINF.out hz0 hz1 hz2 rfl (by decide) _ n _ rfl HO.out (some ⟨vb, 0, none⟩) 1 1 [p] rfl rfl (news_blk hv) (by intro u hu; simp at hu; subst hu; exact hp1) (n + 1) rfl _ rfl (by unfold maxLen; omega) (by omega) hB ?_; intro a7 k7 w7 hown7 hgr7 hat7)
    all_goals
      go_ret
      exact ⟨a7, k7, rfl, hown7, hgr7, hat7⟩

theorem splice_ins {xs cur : List Value} {p z : Value} {i n : Nat} (hi : i < n) (hn : xs.length = n) (hc : cur.take (n + 1) = xs.take i ++ List.replicate (n + 1 - i) z) :
    (splice (splice cur i [p]) (i + 1) (xs.drop i)).take (n + 1) = xs.take i ++ p :: xs.drop i := by
  have hl : n + 1 ≤ cur.length := by
    have := congrArg List.length hc
    simp only [List.length_take, List.length_append, List.length_replicate, hn] at this
    omega
  have ht : cur.take i = xs.take i := by
    have := congrArg (List.take i) hc
    rw [List.take_take, Nat.min_eq_left (by omega), List.take_append_of_le_length (by simp; omega), List.take_take, Nat.min_self] at this
    exact this
  unfold splice
  have e1 : (cur.take i ++ ([p] ++ cur.drop (i + [p].length))).take (i + 1) = xs.take i ++ [p] := by
    rw [ht, ← List.append_assoc, List.take_append_of_le_length (by simp; omega)]
    apply List.take_of_length_le
    simp; omega
  rw [e1]
  have e2 : (xs.take i ++ [p] ++ (xs.drop i ++ (cur.take i ++ ([p] ++ cur.drop (i + [p].length))).drop (i + 1 + (xs.drop i).length))).take (n + 1) = xs.take i ++ [p] ++ xs.drop i := by
    rw [← List.append_assoc, List.take_append_of_le_length (by simp; omega)]
    apply List.take_of_length_le
    simp; omega
  rw [e2]
  simp
set_option maxRecDepth 100000 in
set_option maxHeartbeats 1000000 in
/-- In the middle, where the row must grow. -/
theorem insert_grow (w : World) (B : Nat) (g n k : Nat) (xs : List Value) (hx1 : ∀ u ∈ xs, u.oneCell' = true) (hown : w.ownsRow B 109 1 (.slice (some ⟨g, 0, none⟩) n k) n xs) (hB : B ≤ w.heap.size) (hn : n ≤ 100000) (i : Nat) (hi : i < n) (hnk : k < n + 1) (vb : Nat) (p : Value) (hp1 : p.oneCell' = true) (hv : Blk w vb 109 #[p]) :
    Calls Try.prog 77 #[.slice (some ⟨g, 0, none⟩) n k, .int .i64 i, .slice (some ⟨vb, 0, none⟩) 1 1] w (InsPost w B (.slice (some ⟨g, 0, none⟩) n k) n (xs.take i ++ p :: xs.drop i)) := by
  obtain ⟨i0, hi0, hz0, hz1, hz2⟩ := info_parts Try.info109
  have HINF := Lib.hid hi0
  obtain ⟨hk1, hk2⟩ := own_cap hown
  obtain rfl : n = k := by omega
  have hxl : xs.length = n := by have := hown.1; omega
  have hcell : ∀ j v, xs[j]? = some v → w.cell? ⟨g, j, none⟩ = some v := fun j v hj => by
    obtain ⟨b, e, _, _, hc⟩ := own_rd hown j v hj
    injection e with e
    injection e with e
    rw [e]; exact hc
  have hgl := (hown.lt g rfl).2
  have HC := Lib.hid hcell
  have HXL := Lib.hid hxl
  have HX1 := Lib.hid hx1
  have hwz : IntKind.i64.wrap (((n : Int) + 1) - (i : Int)) = ((n + 1 - i : Nat) : Int) := by rw [IntKind.wrap_i64]; omega
  have hii : (i : Int) ≤ (n : Int) := by omega
  have hne : ((i : Int) == (n : Int)) = false := by simp only [beq_eq_false_iff_ne]; omega
  have hgt : (n : Int) < (n : Int) + 1 := by omega
  clear hi0 hown hcell hxl hx1 hnk
  go_enter Try.func77, Try.ntmps77
  go_upto_region 10 with (at_builtin; refine wpList_append_zerosN rfl (.tmp 34) (.tmp 39) 104 3 rfl 109 i0 (.pointer none) Try.underlying104' Try.underlying3 HINF.out hz0 hz1 (by rw [hz2]; omega) rfl ⟨g, 0, none⟩ i n rfl (xs.take i) (by rw [List.length_take, HXL.out]; omega) (fun j v hj => by rw [Addr.add_lit, Nat.zero_add]; exact HC.out j v (by rw [List.getElem?_take] at hj; split at hj; exact hj; cases hj)) (n + 1 - i) rfl (by omega) (by omega) (by omega) (by omega) (n + 1) (by omega) ?_; intro cap w2 cur hc1 hc2 hcs hct hb2 bl2)
  have hv2 := hv.below bl2 hv.lt
  have hB2 : w2.heap[w.heap.size]? = some (.cells cur.toList.toArray 109 (0, 0)) := by rw [Array.toArray_toList]; exact hb2
  have hsz : (Try.prog.info? 109).map (·.size) = some 1 := by rw [HINF.out]; simp [hz1]
  have hcl : cur.toList.length = cap := by simpa using hcs
  have HSZ := Lib.hid hsz
  have HCL := Lib.hid hcl
  clear hsz hcl hcs
  have hcq : ¬ (cap = i) := by omega
  go_upto_region 11 with (refine wpList_copy_splice rfl (.tmp 43) (.tmp 44) 104 104 rfl 109 Try.underlying104' HSZ.out _ (some ⟨vb, 0, none⟩) _ _ 1 1 rfl rfl w.heap.size i cur.toList 109 hB2 [p] (by simp [Nat.min_def]; omega) (fun _ => ⟨rfl, _, rfl, World.news_of_block (B := vb) (t := 109) (fr := (0, 0)) hv2⟩) (by rw [HCL.out]; simp; omega) (by intro u hu; simp at hu; subst hu; exact hp1) w.heap.size w bl2 (Nat.le_refl _) ?_; intro w3 hg3 bl3)
  have hmin : (xs.drop i).length = Nat.min (n - i) (n + 1 - (i + 1)) := by rw [List.length_drop, HXL.out]; simp
  have hl1 : (splice cur.toList i [p]).length = cap := by rw [length_splice _ _ _ (by rw [HCL.out]; simp; omega), HCL.out]
  have HMIN := Lib.hid hmin
  have HL1 := Lib.hid hl1
  have HCT := Lib.hid hct
  have hw1 : IntKind.i64.wrap ((i : Int) + 1) = (i : Int) + 1 := by rw [IntKind.wrap_i64]; omega
  have hb1 : (0 : Int) ≤ (i : Int) + 1 := by omega
  have htn : ((i : Int) + 1).toNat = i + 1 := by omega
  have hcq1 : ¬ (cap = i + 1) := by omega
  have hnq : ¬ (n = i) := by omega
  have hin : i ≤ n := by omega
  have hb4 : (i : Int) + 1 ≤ (n : Int) + 1 := by omega
  have hb5 : i + 1 ≤ n + 1 := by omega
  clear hmin hl1 hct hB2 hne hgt hwz
  go_region_law (refine step_copy_splice rfl (.tmp 50) (.tmp 53) 104 104 rfl 109 Try.underlying104' HSZ.out _ (some ⟨g, i, none⟩) _ _ _ _ (by simp [Act.eval, Act.put]; rfl) (by simp [Act.eval, Act.put]; rfl) w.heap.size (i + 1) (splice cur.toList i [p]) 109 hg3.out (xs.drop i) HMIN.out (fun _ => ⟨rfl, _, rfl, fun j v hj => by rw [Addr.add_mid]; exact (bl3.drew.cell (p := ⟨g, i + j, none⟩) hgl).trans (HC.out (i + j) v (by rw [List.getElem?_drop] at hj; exact hj))⟩) (by rw [HL1.out, List.length_drop, HXL.out]; omega) (fun u hu => HX1.out u (List.mem_of_mem_drop hu)) w.heap.size w bl3.drew (Nat.le_refl _) ?_; intro w4 hg4 bl4)
  all_goals
    go_wp2_with fail
    go_ret
    have hct := HCT.out
    have hsp := splice_ins (p := p) hi HXL.out hct
    have hl2 : (splice (splice cur.toList i [p]) (i + 1) (xs.drop i)).length = cap := by rw [length_splice _ _ _ (by rw [HL1.out, List.length_drop, HXL.out]; omega), HL1.out]
    refine ⟨some ⟨w.heap.size, 0, none⟩, cap, rfl, ⟨?_, .inr ⟨w.heap.size, cap, _, rfl, hB, hg4.out, by omega, hc2, by simp [hl2], ?_⟩⟩, ⟨bl4.os, bl4.tape, bl4.output, bl4.size, fun k hk _ => bl4.block k hk⟩, .inr rfl⟩
    · simp [HXL.out]; omega
    · simpa using hsp

theorem step_copy_row {P : Program} {ops : Array Oper} {o : Oper} {a : Act} {w : World} {K : Act → World → Prop} {Q : Exit → Act → World → Prop} {E : Prop} (hgd : o.guard = none) (d s : Operand) (dT sT : TypeId)
    (ho : o.op = .call { callee := .builtin .copy, args := #[d, s], argTypes := #[dT, sT] }) (elem : TypeId) (hu : P.underlying dT = some (.slice elem)) (hsz : (P.info? elem).map (·.size) = some 1)
    (g off dLen dCap : Nat) (ad : Addr) (sLen sCap : Nat) (hd : a.eval d = .slice (some ⟨g, off, none⟩) dLen dCap) (hs : a.eval s = .slice (some ad) sLen sCap)
    (cur : Array Value) (t : TypeId) (hg : Blk w g t cur) (cs : List Value) (hn : cs.length = Nat.min sLen dLen)
    (hsrc : ∀ j v, cs[j]? = some v → w.cell? (ad.add j) = some v) (hfit : off + cs.length ≤ cur.size) (h1 : ∀ v ∈ cs, v.oneCell' = true)
    (h : K (a.put o.dst (goInt cs.length)) (w.setRow g (splice cur.toList off cs).toArray)) :
    if Region.wanted o (yielded ops a.tmps) = true then Oper.wp P o a w K Q else E := by
  have hw : Region.wanted o (yielded ops a.tmps) = true := by simp [Region.wanted, hgd]
  rw [if_pos hw]
  have hrun := run_copy_row (P := P) w dT sT o.type elem g off dLen dCap ad sLen sCap cur t cs hu hsz hg hn hsrc hfit h1
  unfold Oper.wp
  simp [execOp, ho, resolve, invoke, builtin, hd, hs, hrun, Result.andThen]
  exact h
theorem shape_blk {w : World} {g : Nat} {t : TypeId} {cs : Array Value} (h : Blk w g t cs) : w.shape? g = some (t, cs.size) := by
  unfold Blk at h
  simp [World.shape?, h]
theorem splice_room {xs cur : List Value} {p : Value} {i n : Nat} (hi : i < n) (hn : xs.length = n) (hl : n + 1 ≤ cur.length) (hc : cur.take n = xs) :
    (splice (splice cur (i + 1) (xs.drop i)) i [p]).take (n + 1) = xs.take i ++ p :: xs.drop i := by
  have ht : cur.take i = xs.take i := by rw [← hc, List.take_take, Nat.min_eq_left (by omega)]
  have hd : (xs.drop i).length = n - i := by rw [List.length_drop, hn]
  unfold splice
  have e1 : (cur.take (i + 1) ++ (xs.drop i ++ cur.drop (i + 1 + (xs.drop i).length))).take i = xs.take i := by
    rw [List.take_append_of_le_length (by simp; omega), List.take_take, Nat.min_eq_left (by omega), ht]
  have e2 : (cur.take (i + 1) ++ (xs.drop i ++ cur.drop (i + 1 + (xs.drop i).length))).drop (i + [p].length) = xs.drop i ++ cur.drop (i + 1 + (xs.drop i).length) := by
    have : i + [p].length = (cur.take (i + 1)).length := by simp; omega
    rw [this, List.drop_left]
  rw [e1, e2]
  have e3 : xs.take i ++ ([p] ++ (xs.drop i ++ cur.drop (i + 1 + (xs.drop i).length))) = (xs.take i ++ p :: xs.drop i) ++ cur.drop (i + 1 + (xs.drop i).length) := by simp
  rw [e3]
  have : n + 1 = (xs.take i ++ p :: xs.drop i).length := by simp [hn]; omega
  rw [this, List.take_left]
set_option maxRecDepth 100000 in
set_option maxHeartbeats 1000000 in
/-- In the middle, where there is room. -/
theorem insert_room (w : World) (B : Nat) (g n k : Nat) (xs : List Value) (hx1 : ∀ u ∈ xs, u.oneCell' = true) (hown : w.ownsRow B 109 1 (.slice (some ⟨g, 0, none⟩) n k) n xs) (hn : n ≤ 100000) (i : Nat) (hi : i < n) (hnk : n + 1 ≤ k) (vb : Nat) (p : Value) (hp1 : p.oneCell' = true) (hv : Blk w vb 109 #[p]) (hvg : vb ≠ g) :
    Calls Try.prog 77 #[.slice (some ⟨g, 0, none⟩) n k, .int .i64 i, .slice (some ⟨vb, 0, none⟩) 1 1] w (InsPost w B (.slice (some ⟨g, 0, none⟩) n k) n (xs.take i ++ p :: xs.drop i)) := by
  obtain ⟨i0, hi0, hz0, hz1, hz2⟩ := info_parts Try.info109
  obtain ⟨hk1, hk2⟩ := own_cap hown
  have hxl : xs.length = n := by have := hown.1; omega
  obtain ⟨cur, hcur, hbg, hcs, hct⟩ : ∃ cur, Blk w g 109 cur ∧ B ≤ g ∧ cur.size = k ∧ cur.toList.take n = xs := by
    rcases hown.2 with ⟨e, _⟩ | ⟨g', cap, cur, e, hB, hg, _, _, h5, h6⟩
    · cases e
    · injection e with e1 _ e2
      injection e1 with e1
      injection e1 with e1
      subst e1 e2
      exact ⟨cur, hg, hB, by omega, by simpa using h6⟩
  have hkm : k ≤ maxLen := by unfold maxLen; exact hk2
  have hsz : (Try.prog.info? 109).map (·.size) = some 1 := by rw [hi0]; simp [hz1]
  have hz : ∀ w, (Go.sizeOf 109).run Try.prog w = .ok 1 w := fun _ => by kernel_rfl
  have hov : ∀ lb cb, (callFunc 83 #[.slice (some ⟨vb, 0, none⟩) 1 1, .slice (some ⟨g, i + 1, none⟩) lb cb]).run Try.prog w = .ok (.value (.bool false)) w := fun lb cb => by
    rw [run_callFunc_extern Try.func83 (by kernel_rfl) (by kernel_rfl) (by kernel_rfl) (e := Extern.SlicesOverlaps.overlaps #[104, 104] #[4]) (by kernel_rfl),
      Lib.run_overlaps_apart w 104 4 109 Try.underlying104' 1 hz ⟨vb, 0, none⟩ ⟨g, i + 1, none⟩ 1 1 lb cb hvg 109 109 1 cur.size (shape_blk hv) (shape_blk hcur) (by omega) (hv.free 0) (hv.free _)]
    rfl
  have hdl : (xs.drop i).length = n - i := by rw [List.length_drop, hxl]
  have HSZ := Lib.hid hsz
  have HX1 := Lib.hid hx1
  have HXL := Lib.hid hxl
  have HCUR := Lib.hid hcur
  have HCS := Lib.hid hcs
  have HCT := Lib.hid hct
  have HDL := Lib.hid hdl
  have hmin : (xs.drop i).length = Nat.min (n + 1 - i) (n + 1 - (i + 1)) := by rw [hdl]; simp only [Nat.min_def]; split <;> omega
  have HMIN := Lib.hid hmin
  have hw1 : IntKind.i64.wrap ((i : Int) + 1) = (i : Int) + 1 := by rw [IntKind.wrap_i64]; omega
  have hb1 : (0 : Int) ≤ (i : Int) + 1 := by omega
  have htn : ((i : Int) + 1).toNat = i + 1 := by omega
  have hki1 : ¬ (k = i + 1) := by omega
  have hki : ¬ (k = i) := by omega
  have hin : i ≤ n := by omega
  have hin1 : i ≤ n + 1 := by omega
  have hb3 : (i : Int) ≤ (n : Int) + 1 := by omega
  have hb4 : (i : Int) + 1 ≤ (n : Int) + 1 := by omega
  have hb5 : i + 1 ≤ n + 1 := by omega
  have hii : (i : Int) ≤ (n : Int) := by omega
  have hne : ((i : Int) == (n : Int)) = false := by simp only [beq_eq_false_iff_ne]; omega
  have hgt : ¬ ((k : Int) < (n : Int) + 1) := by omega
  have HKM := Lib.hid hkm
  clear hi0 hown hx1 hsz hcur hcs hct hz hdl hmin hkm hxl
  go_enter Try.func77, Try.ntmps77
  go_upto_region 15 with (simp only [hov])
  have hcd : Blk w.drew g 109 cur := HCUR.out
  have HCD := Lib.hid hcd
  clear hcd
  go_region_law (refine step_copy_row rfl (.tmp 73) (.tmp 76) 104 104 rfl 109 Try.underlying104' HSZ.out g (i + 1) (n + 1 - (i + 1)) (k - (i + 1)) ⟨g, i, none⟩ (n + 1 - i) (k - i) (by simp [Act.eval, Act.put]) (by simp [Act.eval, Act.put]) cur 109 HCD.out (xs.drop i) HMIN.out (fun j v hj => by rw [Addr.add_mid]; exact HCD.out.at (i + j) (by rw [List.getElem?_drop, ← HCT.out, List.getElem?_take] at hj; split at hj; simpa using hj; cases hj)) (by rw [HDL.out, HCS.out]; omega) (fun u hu => HX1.out u (List.mem_of_mem_drop hu)) ?_)
  have hB2 := HCD.out.setRow (splice cur.toList (i + 1) (xs.drop i)).toArray
  have hv2 : Blk (w.drew.setRow g (splice cur.toList (i + 1) (xs.drop i)).toArray) vb 109 #[p] := hv.farRow hvg _
  have hl1 : (splice cur.toList (i + 1) (xs.drop i)).length = k := by rw [length_splice _ _ _ (by rw [HDL.out]; simp [HCS.out]; omega)]; simp [HCS.out]
  have HB2 := Lib.hid hB2
  have HV2 := Lib.hid hv2
  have HL1 := Lib.hid hl1
  clear hB2 hv2 hl1
  go_wp2_with (refine wpList_copy_own rfl (.tmp 80) (.tmp 81) 104 104 rfl 109 Try.underlying104' HSZ.out g i (n + 1 - i) (k - i) ⟨vb, 0, none⟩ 1 1 rfl rfl _ 109 HB2.out [p] (by simp [Nat.min_def]; omega) (World.news_of_block (B := vb) (t := 109) (fr := (0, 0)) HV2.out) (by simp [HL1.out]; omega) (by intro u hu; simp at hu; subst hu; exact hp1) ?_)
  go_ret
  have hfin : Blk ((w.drew.setRow g (splice cur.toList (i + 1) (xs.drop i)).toArray).setRow g (splice (splice cur.toList (i + 1) (xs.drop i)) i [p]).toArray) g 109 (splice (splice cur.toList (i + 1) (xs.drop i)) i [p]).toArray := HB2.out.setRow _
  have hl2 : (splice (splice cur.toList (i + 1) (xs.drop i)) i [p]).length = k := by rw [length_splice _ _ _ (by rw [HL1.out]; simp; omega), HL1.out]
  have hsp := splice_room (p := p) hi HXL.out (by simp [HCS.out]; omega) HCT.out
  refine ⟨some ⟨g, 0, none⟩, k, rfl, ⟨?_, .inr ⟨g, k, _, rfl, hbg, hfin, by omega, HKM.out, by simp [hl2], ?_⟩⟩, ⟨rfl, rfl, rfl, ?_, fun q hq hne => ?_⟩, .inl rfl⟩
  · simp [HXL.out]; omega
  · simpa using hsp
  · simp
  · exact (setRow_other _ g q _ (fun e => hne (by rw [e]; rfl))).trans (setRow_other _ g q _ (fun e => hne (by rw [e]; rfl)))


end Go.Proofs.Ythplnecnagbedaa
