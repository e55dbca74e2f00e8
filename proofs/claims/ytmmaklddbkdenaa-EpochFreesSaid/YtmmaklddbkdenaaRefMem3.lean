/- The document's clock (hopperref10): free, Retire, each by its contract; conditions: bounds on the clock's numbers, at most 4096 things. -/
import Derived.Test.YtmmaklddbkdenaaRefMem2
namespace Go.Proofs.Ytmmaklddbkdenaa
open Go.RowKit

set_option maxRecDepth 100000 in
set_option maxHeartbeats 4000000 in
theorem rfree_any (w : World) (r rw : Nat) (tv wv : Value) (k : Ck) (h : IsRef w r rw tv wv k) (hk : k.Ok) (at_ : Int) :
    Calls Try.prog 36 #[.pointer (some ⟨r, 0, none⟩), .int .i64 at_] w fun e w' => e = .returned (.bool (freeP k at_)) ∧ w = w' := by
  have c0 := h.1.at 0 rfl
  have c3 := h.1.at 3 rfl
  have hl := hk.len
  have HH := Lib.hid h
  clear h
  by_cases hs : k.snap < at_
  · have hf : freeP k at_ = false := by simp [freeP]; omega
    rw [hf]
    clear hf
    go_enter Try.func36, Try.ntmps36
    go_wp2
    go_ret
    exact ⟨rfl, rfl⟩
  have hf : freeP k at_ = !worksP k.ws fun n => decide (n ≤ at_) := by
    have : at_ ≤ k.snap := by omega
    simp [freeP, this]
  rw [hf]
  clear hf
  go_enter Try.func36, Try.ntmps36
  go_wp2_with fail
  go_loopg [5] k.ws.length (fun gn iv wr => ∃ j : Nat, iv = .int .i64 j ∧ j ≤ k.ws.length ∧ gn = k.ws.length - j ∧ worksP (k.ws.take j) (fun n => decide (n ≤ at_)) = false ∧ wr = w)
  case atStart => exact ⟨0, rfl, Nat.zero_le _, rfl, rfl, rfl⟩
  case round =>
    obtain ⟨j, rfl, hj, rfl, hno, rfl⟩ := hrel
    have HN := Lib.hid hno
    clear hno
    by_cases hlt : j < k.ws.length
    · have cj := HH.out.2.at j (getElem?_map_int k.ws j hlt)
      have hst := worksP_snoc k.ws (fun n => decide (n ≤ at_)) j hlt
      have hhit := worksP_hit k.ws (fun n => decide (n ≤ at_)) j hlt
      rw [HN.out] at hst
      generalize k.ws.getD j 0 = v at cj hst hhit
      have HST := Lib.hid hst
      have HIT := Lib.hid hhit
      clear hst hhit
      by_cases hv : 0 < v
      · by_cases hv2 : v ≤ at_
        · have hb := HIT.out hv (decide_eq_true hv2)
          have HB := Lib.hid hb
          clear hb
          go_wp2_with fail
          go_ret
          rw [HB.out]
          exact ⟨rfl, rfl⟩
        · go_wp2_with fail
          go_roundg (k.ws.length - (j + 1))
          case rel => exact ⟨j + 1, by go_num, by omega, rfl, by rw [HST.out, decide_eq_false (by omega : ¬ v ≤ at_)]; simp, rfl⟩
          case measure => omega
      · have HD : Hid (decide (0 < v) = false) := decide_eq_false hv
        go_wp2_with fail
        go_roundg (k.ws.length - (j + 1))
        case rel => exact ⟨j + 1, by go_num, by omega, rfl, by rw [HST.out, HD.out]; rfl, rfl⟩
        case measure => omega
    · have hb := HN.out
      rw [List.take_of_length_le (by omega)] at hb
      have HB := Lib.hid hb
      clear hb
      go_wp2_with fail
      go_ret
      rw [HB.out]
      exact ⟨rfl, rfl⟩

/-- The things of the document's clock: two rows, apart. -/
structure RT (w : World) (rw : Nat) (tv wv : Value) (ts : List (Int × Int)) : Prop where
  t : w.ownsRow 0 3 1 tv ts.length (ts.map fun x => .int .i64 x.1)
  v : w.ownsRow 0 3 1 wv ts.length (ts.map fun x => .int .i64 x.2)
  a : ∀ g, tv.ownBlock = some g → g ≠ rw ∧ wv.ownBlock ≠ some g
  b : ∀ g, wv.ownBlock = some g → g ≠ rw

theorem RT.chg {w w' : World} {rw : Nat} {tv wv : Value} {ts : List (Int × Int)} {l : List Nat} (h : RT w rw tv wv ts) (hc : Chg l w w') (h1 : ∀ g, tv.ownBlock = some g → g ∉ l) (h2 : ∀ g, wv.ownBlock = some g → g ∉ l) : RT w' rw tv wv ts :=
  ⟨own_chg h.t hc h1, own_chg h.v hc h2, h.a, h.b⟩

def RetireE (r rw : Nat) (tv wv : Value) (k : Ck) (ts : List (Int × Int)) (x n : Int) (w : World) (e : Ending) (w' : World) : Prop :=
  e = .returned (.int .i64 n) ∧ ∃ tv' wv', IsRef w' r rw tv' wv' k ∧ RT w' rw tv' wv' (retT ts (x, k.glob)) ∧ Chg (r :: (tv.ownBlock.toList ++ wv.ownBlock.toList)) w w' ∧ Moved w tv tv' ∧ Moved w wv wv'

set_option maxRecDepth 100000 in
set_option maxHeartbeats 4000000 in
theorem rretire_any (w : World) (r rw : Nat) (tv wv : Value) (k : Ck) (ts : List (Int × Int)) (h : IsRef w r rw tv wv k) (ht : RT w rw tv wv ts) (hl : ts.length ≤ 4096) (x : Int) :
    Calls Try.prog 29 #[.pointer (some ⟨r, 0, none⟩), .int .i64 x] w (RetireE r rw tv wv k ts x (retE ts) w) := by
  obtain ⟨A, cap, rfl, hcap⟩ := own_form ht.t
  obtain ⟨A2, cap2, rfl, hcap2⟩ := own_form ht.v
  have c2 := h.1.at 2 rfl
  have c4 := h.1.at 4 rfl
  have c5 := h.1.at 5 rfl
  have f4 := h.1.free 4
  have f5 := h.1.free 5
  have hlt := h.1.lt
  have hlt2 := h.2.lt
  have HH := Lib.hid h
  have HT := Lib.hid ht
  by_cases hf : 4096 ≤ ts.length
  · rw [show retE ts = 2 by simp [retE, hf]]
    clear h ht
    go_enter Try.func29, Try.ntmps29
    go_wp2
    go_ret
    exact ⟨rfl, _, _, HH.out, by rw [show retT ts (x, k.glob) = ts by simp [retT, hf]]; exact HT.out, Chg.refl _ _, .inl rfl, .inl rfl⟩
  rw [show retE ts = 0 by simp [retE, hf]]
  obtain ⟨i0, hi, hz0, hz1, hz2⟩ := info_parts Try.info3
  have HI := Lib.hid hi
  have hn1 := own_ne ht.t h.1 (by decide)
  have hn2 := own_ne ht.v h.1 (by decide)
  have HN1 := Lib.hid hn1
  have HN2 := Lib.hid hn2
  clear h ht hi hn1 hn2
  go_enter Try.func29, Try.ntmps29
  go_wp2_with (at_builtin; refine wpList_append_lies _ rfl (.tmp 15) (.tmp 17) 41 rfl 0 3 i0 (.int .i64 0) 1 8 Try.underlying41 HI.out hz0 hz1 hz2 rfl (by decide) _ ts.length (ts.map fun x => .int .i64 x.1) rfl (HT.out.t.alloc _) ⟨w.heap.size, 0, none⟩ 1 1 [.int .i64 x] rfl rfl (cell_one_new _ _ _) (by intro u hu; simp at hu; subst hu; rfl) (by decide) (by unfold maxLen; omega) (by omega) (Nat.zero_le _) _ rfl ?rest)
  intro g1 p1 w1 own1 gr1 bl1 lt1
  have hc1 : Chg ((Value.slice A ts.length cap).ownBlock.toList) w w1 := ((Chg.refl _ _).alloc (.cells #[.int .i64 x] 3)).trans (Chg.of_grown (l := (Value.slice A ts.length cap).ownBlock.toList) gr1 (fun g' hg' => .inl (by rw [hg']; simp))) (fun q hq => .inl hq)
  have k1 := HH.out.1.chg hc1 (by intro hx; exact HN1.out (by simpa using hx : (Value.slice A ts.length cap).ownBlock = some r).symm)
  have j1 := HH.out.2.chg hc1 (by intro hx; exact ((HT.out.a _ (by simpa using hx)).1 rfl))
  have hr1 := k1.lt
  have d2 := k1.at 2 rfl
  have d4 := k1.at 4 rfl
  have d5 := k1.at 5 rfl
  have e4 := k1.free 4
  have e5 := k1.free 5
  have own2 : w1.ownsRow 0 3 1 (.slice A2 ts.length cap2) ts.length (ts.map fun x => .int .i64 x.2) := own_chg HT.out.v hc1 (fun g hg hx => (HT.out.a g (by simpa using hx)).2 hg)
  have hbl1 : (Value.slice A ts.length cap).ownBlock = some g1 ∨ g1 = w.heap.size + 1 := by rcases bl1 with h | h; exact .inl h; exact .inr (by simpa using h)
  have hg1r : g1 ≠ r := by
    rintro rfl
    rcases hbl1 with h | h
    · exact HN1.out h.symm
    · omega
  have hg1w : g1 ≠ rw ∧ (Value.slice A2 ts.length cap2).ownBlock ≠ some g1 := by
    rcases hbl1 with h | h
    · exact HT.out.a g1 h
    · exact ⟨by omega, fun hx => by have := (HT.out.v.lt _ hx).2; omega⟩
  have HG1 := Lib.hid hg1w
  have HB1 := Lib.hid hbl1
  clear hg1w hbl1 bl1
  have hz1' := hc1.size
  have OWN1 := Lib.hid own1
  have OWN2 := Lib.hid own2
  have HO : Hid (∀ o, ((w1.setCell ⟨r, 4, none⟩ (.slice (some ⟨g1, 0, none⟩) (ts.length + 1) p1)).alloc o).drew.ownsRow 0 3 1 (.slice A2 ts.length cap2) ts.length (ts.map fun x => .int .i64 x.2)) :=
    fun o => ((ownsRow_setCell_other own2 (a := ⟨r, 4, none⟩) (fun hx => HN2.out hx.symm) _).alloc o).drew
  clear own1 own2
  go_wp2_with fail
  go_region_law (refine step_append_lies _ rfl (.tmp 25) (.tmp 30) 41 rfl 0 3 i0 (.int .i64 0) 1 8 Try.underlying41 HI.out hz0 hz1 hz2 rfl (by decide) _ ts.length (ts.map fun x => .int .i64 x.2) rfl (HO.out _) ⟨w1.heap.size, 0, none⟩ 1 1 [.int .i64 k.glob] rfl rfl (fun j u hu => by simpa using cell_one_new (w1.setCell ⟨r, 4, none⟩ (.slice (some ⟨g1, 0, none⟩) (ts.length + 1) p1)) _ 3 j u hu) (by intro u hu; simp at hu; subst hu; rfl) (by decide) (by unfold maxLen; omega) (by omega) (Nat.zero_le _) _ rfl ?_; intro g2 p2 w2 own3 gr2 bl2 lt2; have k2 := ((((k1.set 4 (.slice (some ⟨g1, 0, none⟩) (ts.length + 1) p1)).alloc (.cells #[.int .i64 k.glob] 3)).drew).grown gr2 HN2.out); have m5 := k2.at 5 rfl; have n5 := k2.free 5)
  all_goals go_wp2
  all_goals go_ret
  all_goals
    have hrt : retT ts (x, k.glob) = ts ++ [(x, k.glob)] := by simp [retT, hf]
    have hc2 : Chg [r] w1 (((w1.setCell ⟨r, 4, none⟩ (.slice (some ⟨g1, 0, none⟩) (ts.length + 1) p1)).alloc (.cells #[.int .i64 k.glob] 3)).drew) := (((Chg.refl [r] w1).setCell (.inl (by simp)) _).alloc _).drew
    have hz2' := hc2.size
    have hbl2 : (Value.slice A2 ts.length cap2).ownBlock = some g2 ∨ g2 = w1.heap.size + 1 := by rcases bl2 with h | h; exact .inl h; exact .inr (by simpa using h)
    have gr2' : (((w1.setCell ⟨r, 4, none⟩ (.slice (some ⟨g1, 0, none⟩) (ts.length + 1) p1)).alloc (.cells #[.int .i64 k.glob] 3)).drew).grownBy w2 (Value.slice A2 ts.length cap2).ownBlock := gr2
    have hc3 : Chg ((Value.slice A2 ts.length cap2).ownBlock.toList) (((w1.setCell ⟨r, 4, none⟩ (.slice (some ⟨g1, 0, none⟩) (ts.length + 1) p1)).alloc (.cells #[.int .i64 k.glob] 3)).drew) w2 := Chg.of_grown gr2' (fun g' hg' => .inl (by rw [hg']; simp))
    have hg2r : g2 ≠ r := by
      rintro rfl
      rcases hbl2 with h | h
      · exact HN2.out h.symm
      · omega
    have hg2w : g2 ≠ rw := by
      rcases hbl2 with h | h
      · exact HT.out.b g2 h
      · have := j1.lt; omega
    have hg12 : g1 ≠ g2 := by
      rintro rfl
      rcases hbl2 with h | h
      · exact HG1.out.2 h
      · omega
    have hnw : rw ∉ (Value.slice A2 ts.length cap2).ownBlock.toList := fun hx => HT.out.b _ (by simpa using hx) rfl
    have hng1 : g1 ∉ (Value.slice A2 ts.length cap2).ownBlock.toList := fun hx => HG1.out.2 (by simpa using hx)
    have jw := (j1.chg hc2 (by simpa using (HH.out.1.ne HH.out.2 (by decide)).symm)).chg hc3 hnw
    have o1 := own_chg (own_chg OWN1.out hc2 (fun g hg => by simp [Value.ownBlock] at hg; subst hg; simpa using hg1r)) hc3 (fun g hg => by simp [Value.ownBlock] at hg; subst hg; exact hng1)
    refine ⟨rfl, _, _, ⟨k2.set 5 _, jw.far (by dsimp only; exact (HH.out.1.ne HH.out.2 (by decide)).symm) _⟩, ⟨?_, ?_, ?_, ?_⟩, ?_, ?_, ?_⟩
    · rw [hrt]
      have := ownsRow_setCell_other o1 (a := ⟨r, 5, none⟩) (by simp [Value.ownBlock, hg1r]) (.slice (some ⟨g2, 0, none⟩) (ts.length + 1) p2)
      simpa using this
    · rw [hrt]
      have := ownsRow_setCell_other own3 (a := ⟨r, 5, none⟩) (by simp [Value.ownBlock, hg2r]) (.slice (some ⟨g2, 0, none⟩) (ts.length + 1) p2)
      simpa using this
    · intro g hg
      simp only [Value.ownBlock, Option.some.injEq] at hg
      subst hg
      exact ⟨HG1.out.1, by simp [Value.ownBlock, Ne.symm hg12]⟩
    · intro g hg
      simp only [Value.ownBlock, Option.some.injEq] at hg
      subst hg
      exact hg2w
    · have h1 : Chg (r :: ((Value.slice A ts.length cap).ownBlock.toList ++ (Value.slice A2 ts.length cap2).ownBlock.toList)) w w1 := hc1.more (fun q hq => .inl (by simp at hq ⊢; exact .inr (.inl hq)))
      have h2 := h1.trans hc2 (fun q hq => .inl (by simp at hq ⊢; exact .inl hq))
      have h3 := h2.trans hc3 (fun q hq => .inl (by simp at hq ⊢; exact .inr (.inr hq)))
      exact h3.setCell (.inl (by simp)) _
    · rcases HB1.out with h | h
      · exact .inl h.symm
      · exact .inr ⟨g1, rfl, by omega⟩
    · rcases hbl2 with h | h
      · exact .inl h.symm
      · exact .inr ⟨g2, rfl, by omega⟩

end Go.Proofs.Ytmmaklddbkdenaa
