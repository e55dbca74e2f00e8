/- The document's clock (hopperref10): Free by its contract; conditions: bounds on the clock's numbers, at most 4096 things. -/
import Derived.Test.YtmmaklddbkdenaaRefMem3
namespace Go.Proofs.Ytmmaklddbkdenaa
open Go.RowKit

theorem own_base {w : World} {base base' : Nat} {e : TypeId} {size n : Nat} {v : Value} {xs : List Value} (h : w.ownsRow base e size v n xs) (hb : base' ≤ base) : w.ownsRow base' e size v n xs := by
  refine ⟨h.1, ?_⟩
  rcases h.2 with h0 | ⟨g, cap, cur, e1, hg, rest⟩
  · exact .inl h0
  · exact .inr ⟨g, cap, cur, e1, by omega, rest⟩
theorem own_at {w : World} {base : Nat} {e : TypeId} {n cap : Nat} {A : Option Addr} {xs : List Value} (h : w.ownsRow base e 1 (.slice A n cap) n xs) {j : Nat} {u : Value} (hj : j < n) (hu : xs[j]? = some u) :
    ∃ g, A = some ⟨g, 0, none⟩ ∧ base ≤ g ∧ g < w.heap.size ∧ w.cell? ⟨g, j, none⟩ = some u := by
  rcases h.2 with ⟨_, h0⟩ | ⟨g, cap', cur, e1, hb, hg, h3, h4, h5, h6⟩
  · omega
  · simp only [Value.slice.injEq] at e1
    obtain ⟨rfl, _, rfl⟩ := e1
    have hg' : Blk w g e cur := hg
    refine ⟨g, rfl, hb, hg'.lt, hg'.at j ?_⟩
    rw [← h6, List.getElem?_take, if_pos (by omega)] at hu
    simpa using hu
theorem keepT_step (k : Ck) (ts : List (Int × Int)) (j : Nat) (h : j < ts.length) : keepT k (ts.take (j + 1)) = if freeP k (ts.getD j (0, 0)).2 then keepT k (ts.take j) else keepT k (ts.take j) ++ [ts.getD j (0, 0)] := by
  rw [take_succ_getD ts j h, keepT_snoc]
theorem toldT_step (k : Ck) (ts : List (Int × Int)) (j : Nat) (h : j < ts.length) : toldT k (ts.take (j + 1)) = if freeP k (ts.getD j (0, 0)).2 then toldT k (ts.take j) ++ [(ts.getD j (0, 0)).1] else toldT k (ts.take j) := by
  rw [take_succ_getD ts j h, toldT_snoc]

/-- A row of ints of the call's own. -/
def Own1 (B : Nat) (w : World) (v : Value) (l : List Int) : Prop := w.ownsRow B 3 1 v l.length (l.map (Value.int .i64))

/-- Three rows of the call's own, apart. -/
structure Three (B : Nat) (w : World) (ov tv wv : Value) (os ts vs : List Int) : Prop where
  o : Own1 B w ov os
  t : Own1 B w tv ts
  v : Own1 B w wv vs
  ot : ∀ g, ov.ownBlock = some g → tv.ownBlock ≠ some g
  ov : ∀ g, ov.ownBlock = some g → wv.ownBlock ≠ some g
  tv : ∀ g, tv.ownBlock = some g → wv.ownBlock ≠ some g

/-- What an append of one int leaves: the row at a block g, which is the old one or new; all else as it was. -/
structure Appended (B : Nat) (w w1 : World) (v : Value) (l : List Int) (x : Int) (v' : Value) : Prop where
  own : Own1 B w1 v' (l ++ [x])
  chg : Chg v.ownBlock.toList w w1
  mv : Moved w v v'

theorem appended_of {B : Nat} {w w1 : World} {v : Value} {l : List Int} {x : Int} {g p : Nat} (own : w1.ownsRow B 3 1 (.slice (some ⟨g, 0, none⟩) (l.length + 1) p) (l.length + 1) (l.map (Value.int .i64) ++ [.int .i64 x]))
    (gr : (w.alloc (.cells #[.int .i64 x] 3)).grownBy w1 v.ownBlock) (bl : v.ownBlock = some g ∨ g = w.heap.size + 1) : Appended B w w1 v l x (.slice (some ⟨g, 0, none⟩) (l.length + 1) p) := by
  refine ⟨by unfold Own1; simpa using own, ((Chg.refl _ _).alloc _).trans (Chg.of_grown (l := v.ownBlock.toList) gr (fun g' hg' => .inl (by rw [hg']; simp))) (fun q hq => .inl hq), ?_⟩
  rcases bl with h | h
  · exact .inl h.symm
  · exact .inr ⟨g, rfl, by omega⟩

section
variable {B : Nat} {w w1 : World} {ov tv wv v' : Value} {os ts vs : List Int} {x : Int}
theorem apart_moved {a b b' : Value} {l : List Int} (h : ∀ g, a.ownBlock = some g → b.ownBlock ≠ some g) (hm : Moved w b b') (ha : Own1 B w a l) : ∀ g, a.ownBlock = some g → b'.ownBlock ≠ some g := by
  intro g hg
  rcases hm with e | ⟨g', e, h2⟩
  · rw [e]; exact h g hg
  · rw [e]; intro hx; injection hx with hx; have := (ha.lt g hg).2; omega
theorem apart_swap {a b : Value} (h : ∀ g, a.ownBlock = some g → b.ownBlock ≠ some g) : ∀ g, b.ownBlock = some g → a.ownBlock ≠ some g := fun g hg ha => h g ha hg
theorem own1_chg {a b : Value} {l : List Int} (h : Own1 B w a l) (hc : Chg b.ownBlock.toList w w1) (hab : ∀ g, a.ownBlock = some g → b.ownBlock ≠ some g) : Own1 B w1 a l :=
  own_chg h hc (fun g hg hx => hab g hg (by simpa using hx))
theorem Three.app_o (h : Three B w ov tv wv os ts vs) (ha : Appended B w w1 ov os x v') : Three B w1 v' tv wv (os ++ [x]) ts vs :=
  ⟨ha.own, own1_chg h.t ha.chg (apart_swap h.ot), own1_chg h.v ha.chg (apart_swap h.ov), apart_swap (apart_moved (apart_swap h.ot) ha.mv h.t), apart_swap (apart_moved (apart_swap h.ov) ha.mv h.v), h.tv⟩
theorem Three.app_t (h : Three B w ov tv wv os ts vs) (ha : Appended B w w1 tv ts x v') : Three B w1 ov v' wv os (ts ++ [x]) vs :=
  ⟨own1_chg h.o ha.chg h.ot, ha.own, own1_chg h.v ha.chg (apart_swap h.tv), apart_moved h.ot ha.mv h.o, h.ov, apart_swap (apart_moved (apart_swap h.tv) ha.mv h.v)⟩
theorem Three.app_v (h : Three B w ov tv wv os ts vs) (ha : Appended B w w1 wv vs x v') : Three B w1 ov tv v' os ts (vs ++ [x]) :=
  ⟨own1_chg h.o ha.chg h.ov, own1_chg h.t ha.chg h.tv, ha.own, h.ot, apart_moved h.ov ha.mv h.o, apart_moved h.tv ha.mv h.t⟩
theorem Appended.below (ha : Appended B w w1 ov os x v') (ho : Own1 B w ov os) {w0 : World} (hb : Below B w0 w) (hB : B ≤ w.heap.size) : Below B w0 w1 :=
  below_chg hb ha.chg hB (fun q hq => (ho.lt q (by simpa using hq)).1)
end

def RFreeE (k : Ck) (ts : List (Int × Int)) (r rw : Nat) (w : World) (e : Ending) (w' : World) : Prop :=
  ∃ (tv' wv' ov' : Value), e = .returned ov' ∧ IsRef w' r rw tv' wv' k ∧ RT w' rw tv' wv' (keepT k ts) ∧ Outs w' w.heap.size ov' (toldT k ts) ∧ Chg [r] w w' ∧
    (∀ g, tv'.ownBlock = some g → w.heap.size ≤ g) ∧ (∀ g, wv'.ownBlock = some g → w.heap.size ≤ g) ∧ (∀ g, ov'.ownBlock = some g → tv'.ownBlock ≠ some g ∧ wv'.ownBlock ≠ some g)

set_option maxRecDepth 100000 in
set_option maxHeartbeats 8000000 in
theorem rfreeAll_any (w : World) (r rw : Nat) (tv wv : Value) (k : Ck) (ts : List (Int × Int)) (h : IsRef w r rw tv wv k) (hk : k.Ok) (ht : RT w rw tv wv ts) (hl : ts.length ≤ 4096) :
    Calls Try.prog 31 #[.pointer (some ⟨r, 0, none⟩)] w (RFreeE k ts r rw w) := by
  obtain ⟨A, cap, rfl, hcap⟩ := own_form ht.t
  obtain ⟨A2, cap2, rfl, hcap2⟩ := own_form ht.v
  have hlt := h.1.lt
  have hlt2 := h.2.lt
  have HH := Lib.hid h
  have HT := Lib.hid ht
  obtain ⟨i0, hi, hz0, hz1, hz2⟩ := info_parts Try.info3
  have HI := Lib.hid hi
  clear h ht hi
  go_enter Try.func31, Try.ntmps31
  go_wp2_with fail
  go_loopg [3, 4, 5, 6] ts.length (fun gn ov tv wv iv wr => ∃ j : Nat, iv = .int .i64 j ∧ j ≤ ts.length ∧ gn = ts.length - j ∧ Three w.heap.size wr ov tv wv (toldT k (ts.take j)) ((keepT k (ts.take j)).map (·.1)) ((keepT k (ts.take j)).map (·.2)) ∧ Below w.heap.size w wr)
  case atStart => exact ⟨0, rfl, Nat.zero_le _, rfl, ⟨World.ownsRow_nil _ _ _ _, World.ownsRow_nil _ _ _ _, World.ownsRow_nil _ _ _ _, (fun g hg => by cases hg), (fun g hg => by cases hg), (fun g hg => by cases hg)⟩, Below.refl _ _⟩
  case round =>
    obtain ⟨j, rfl, hj, rfl, h3, hb⟩ := hrel
    have hz := hb.size
    have hR : IsRef wr r rw (.slice A ts.length cap) (.slice A2 ts.length cap2) k := ⟨HH.out.1.below hb hlt, HH.out.2.below hb hlt2⟩
    have c4 := hR.1.at 4 rfl
    have c5 := hR.1.at 5 rfl
    have H3 := Lib.hid h3
    by_cases hjl : j < ts.length
    · obtain ⟨gA, rfl, _, hgA, cA⟩ := own_at (u := .int .i64 (ts.getD j (0, 0)).1) HT.out.t hjl (by simp [List.getD, hjl])
      obtain ⟨gB, rfl, _, hgB, cB⟩ := own_at (u := .int .i64 (ts.getD j (0, 0)).2) HT.out.v hjl (by simp [List.getD, hjl])
      have dA := (hb.cell (p := ⟨gA, j, none⟩) hgA).trans cA
      have dB := (hb.cell (p := ⟨gB, j, none⟩) hgB).trans cB
      have hF := rfree_any wr r rw _ _ k hR hk (ts.getD j (0, 0)).2
      have e3 := keepT_step k ts j hjl
      have e4 := toldT_step k ts j hjl
      have n3 := keepT_len k (ts.take j)
      have n4 := toldT_len k (ts.take j)
      rw [List.length_take] at n3 n4
      have n3' : ((keepT k (ts.take j)).map (·.1)).length ≤ 4096 := by rw [List.length_map]; omega
      have n5' : ((keepT k (ts.take j)).map (·.2)).length ≤ 4096 := by rw [List.length_map]; omega
      have e5 : (keepT k (ts.take (j + 1))).map (·.1) = if freeP k (ts.getD j (0, 0)).2 then (keepT k (ts.take j)).map (·.1) else (keepT k (ts.take j)).map (·.1) ++ [(ts.getD j (0, 0)).1] := by rw [e3]; split <;> simp
      have e6 : (keepT k (ts.take (j + 1))).map (·.2) = if freeP k (ts.getD j (0, 0)).2 then (keepT k (ts.take j)).map (·.2) else (keepT k (ts.take j)).map (·.2) ++ [(ts.getD j (0, 0)).2] := by rw [e3]; split <;> simp
      clear e3
      have n4' : (toldT k (ts.take j)).length ≤ 4096 := by omega
      clear n3 n4 cA cB
      generalize ts.getD j (0, 0) = x at dA dB hF e4 e5 e6
      obtain ⟨th, ep⟩ := x
      dsimp only at dA dB hF e4 e5 e6
      generalize (keepT k (ts.take j)).map (·.1) = tl at h3 H3 e5 n3'
      generalize (keepT k (ts.take j)).map (·.2) = vl at h3 H3 e6 n5'
      generalize toldT k (ts.take j) = os at h3 H3 e4 n4'
      obtain ⟨Ao, po, hAo, _⟩ := own_form h3.o
      obtain ⟨At, pt, hAt, _⟩ := own_form h3.t
      obtain ⟨Aw, pw, hAw, _⟩ := own_form h3.v
      subst hAo hAt hAw
      have hrr := hR.1.lt
      have HE4 := Lib.hid e4
      have HE5 := Lib.hid e5
      have HE6 := Lib.hid e6
      clear h3 e4 e5 e6
      cases hp : freeP k ep with
      | true =>
        rw [hp] at hF
        have HP := Lib.hid hp
        clear hp
        go_wp2_with (first | (go_at_call 36; refine hF.mono ?_; rintro e w3 ⟨rfl, rfl⟩) | (at_builtin; refine wpList_append_lies _ rfl (.tmp 25) (.tmp 33) 41 rfl w.heap.size 3 i0 (.int .i64 0) 1 8 Try.underlying41 HI.out hz0 hz1 hz2 rfl (by decide) _ os.length (os.map (Value.int .i64)) rfl (H3.out.o.alloc _) ⟨wr.heap.size, 0, none⟩ 1 1 [.int .i64 th] rfl rfl (cell_one_new _ _ _) (by intro u hu; simp at hu; subst hu; rfl) (by decide) (by unfold maxLen; omega) (by omega) (by simp; omega) _ rfl ?_))
        intro g1 p1 w1 own1 gr1 bl1 lt1
        have ha := appended_of (v := .slice Ao os.length po) own1 gr1 bl1
        have HA := Lib.hid ha
        clear own1 gr1 bl1 ha
        go_wp2_with fail
        go_roundg (ts.length - (j + 1))
        case rel => exact ⟨j + 1, by go_num, by omega, rfl, by rw [HE4.out, HE5.out, HE6.out, if_pos HP.out, if_pos HP.out, if_pos HP.out]; exact H3.out.app_o HA.out, HA.out.below H3.out.o hb hz⟩
        case measure => omega
      | false =>
        rw [hp] at hF
        have HP := Lib.hid hp
        clear hp
        go_wp2_with (first | (go_at_call 36; refine hF.mono ?_; rintro e w3 ⟨rfl, rfl⟩) | (at_builtin; refine wpList_append_lies _ rfl (.tmp 35) (.tmp 43) 41 rfl w.heap.size 3 i0 (.int .i64 0) 1 8 Try.underlying41 HI.out hz0 hz1 hz2 rfl (by decide) _ tl.length (tl.map (Value.int .i64)) rfl (H3.out.t.alloc _) ⟨wr.heap.size, 0, none⟩ 1 1 [.int .i64 th] rfl rfl (cell_one_new _ _ _) (by intro u hu; simp at hu; subst hu; rfl) (by decide) (by unfold maxLen; omega) (by omega) (by simp; omega) _ rfl ?_))
        intro g1 p1 w1 own1 gr1 bl1 lt1
        have ha := appended_of (v := .slice At tl.length pt) own1 gr1 bl1
        have HA := Lib.hid ha
        have h31 := H3.out.app_t ha
        have H31 := Lib.hid h31
        have hb1 := ha.below H3.out.t hb hz
        have hzz1 := hb1.size
        have hR1 : IsRef w1 r rw (.slice (some ⟨gA, 0, none⟩) ts.length cap) (.slice (some ⟨gB, 0, none⟩) ts.length cap2) k := ⟨HH.out.1.below hb1 hlt, HH.out.2.below hb1 hlt2⟩
        have d4 := hR1.1.at 4 rfl
        have d5 := hR1.1.at 5 rfl
        have dA1 := (hb1.cell (p := ⟨gA, j, none⟩) hgA).trans ((hb.cell (p := ⟨gA, j, none⟩) hgA).symm.trans dA)
        have dB1 := (hb1.cell (p := ⟨gB, j, none⟩) hgB).trans ((hb.cell (p := ⟨gB, j, none⟩) hgB).symm.trans dB)
        clear own1 gr1 bl1 ha h31
        go_wp2_with (at_builtin; refine wpList_append_lies _ rfl (.tmp 45) (.tmp 53) 41 rfl w.heap.size 3 i0 (.int .i64 0) 1 8 Try.underlying41 HI.out hz0 hz1 hz2 rfl (by decide) _ vl.length (vl.map (Value.int .i64)) rfl (H31.out.v.alloc _) ⟨w1.heap.size, 0, none⟩ 1 1 [.int .i64 ep] rfl rfl (cell_one_new _ _ _) (by intro u hu; simp at hu; subst hu; rfl) (by decide) (by unfold maxLen; omega) (by omega) (by simp; omega) _ rfl ?_)
        intro g2 p2 w2 own2 gr2 bl2 lt2
        have hb' := appended_of (v := .slice Aw vl.length pw) own2 gr2 bl2
        have HB := Lib.hid hb'
        clear own2 gr2 bl2 hb'
        go_wp2_with fail
        go_roundg (ts.length - (j + 1))
        case rel => exact ⟨j + 1, by go_num, by omega, rfl, by rw [HE4.out, HE5.out, HE6.out, HP.out]; exact H31.out.app_v HB.out, HB.out.below H31.out.v hb1 hzz1⟩
        case measure => omega
    · obtain rfl : j = ts.length := by omega
      rw [List.take_length] at h3 H3
      obtain ⟨Ao, po, hAo, _⟩ := own_form h3.o
      obtain ⟨At, pt, hAt, _⟩ := own_form h3.t
      obtain ⟨Aw, pw, hAw, _⟩ := own_form h3.v
      subst hAo hAt hAw
      have f4 := hR.1.free 4
      have f5 := hR.1.free 5
      have hK := Lib.hid hR
      clear h3 hR
      go_wp2_with fail
      go_ret
      have HTH := H3.out
      have lo := fun g hg => (HTH.o.lt g hg)
      have lt' := fun g hg => (HTH.t.lt g hg)
      have lv := fun g hg => (HTH.v.lt g hg)
      have e1 : ((keepT k ts).map (·.1)).length = (keepT k ts).length := by simp
      have e2 : ((keepT k ts).map (·.2)).length = (keepT k ts).length := by simp
      have hot := HTH.ot
      have hov := HTH.ov
      have htv := HTH.tv
      rw [e1] at lt' hot htv
      rw [e2] at lv hov htv
      have hrw : rw ≠ r := (HH.out.1.ne HH.out.2 (by decide)).symm
      have far : ∀ (v : Value) (l : List Int) (v1 v2 : Value), Own1 w.heap.size wr v l → Own1 w.heap.size ((wr.setCell ⟨r, 4, none⟩ v1).setCell ⟨r, 5, none⟩ v2) v l := fun v l v1 v2 ho => by
        have hn : ∀ (j : Nat), v.ownBlock ≠ some (⟨r, j, none⟩ : Addr).block := fun j hx => by have := (ho.lt r hx).1; omega
        exact ownsRow_setCell_other (ownsRow_setCell_other ho (hn 4) _) (hn 5) _
      refine ⟨_, _, _, rfl, ⟨(hK.out.1.set 4 _).set 5 _, (hK.out.2.far hrw _).far hrw _⟩, ⟨?_, ?_, ?_, ?_⟩, ?_, ?_, fun g hg => (lt' g hg).1, fun g hg => (lv g hg).1, fun g hg => ⟨hot g hg, hov g hg⟩⟩
      · have := own_base (far _ _ (.slice At ((keepT k ts).map (·.1)).length pt) (.slice Aw ((keepT k ts).map (·.2)).length pw) HTH.t) (Nat.zero_le _)
        rw [e1, List.map_map] at this
        simpa [Function.comp_def] using this
      · have := own_base (far _ _ (.slice At ((keepT k ts).map (·.1)).length pt) (.slice Aw ((keepT k ts).map (·.2)).length pw) HTH.v) (Nat.zero_le _)
        rw [e2, List.map_map] at this
        simpa [Function.comp_def] using this
      · exact fun g hg => ⟨fun hx => by have := (lt' g hg).1; omega, htv g hg⟩
      · exact fun g hg hx => by have := (lv g hg).1; omega
      · exact far _ _ _ _ HTH.o
      · have hc : Chg [r] w wr := ⟨hb.os, hb.tape, hb.output, hb.size, fun q hq _ => hb.block q hq⟩
        exact (hc.setCell (.inl (by simp)) _).setCell (.inl (by simp)) _


end Go.Proofs.Ytmmaklddbkdenaa
