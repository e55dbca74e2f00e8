/- The closures of Free of package epoch, each by its contract; conditions: bounds on the clock's numbers. -/
import Derived.Test.YtmmaklddbkdenaaCkThings
import Derived.Deep.QuietTactic
import Derived.BigQuiet
import Derived.StillTailTactics
namespace Go.Proofs.Ytmmaklddbkdenaa
open Go.RowKit

/-- May what was retired at ep be freed? -/
def freeP (k : Ck) (ep : Int) : Bool := decide (ep ≤ k.snap) && !worksP k.ws fun n => decide (n ≤ ep)

theorem free11_any (w : World) (bx : Nat) (th ep : Int) (hb : Blk w bx 58 #[.int .i64 th, .int .i64 ep]) (x : Int) :
    Calls Try.prog 25 #[.int .i64 x, .pointer (some ⟨bx, 0, none⟩)] w fun e w' => e = .returned (.bool (decide (x ≤ ep))) ∧ w = w' := by
  have c1 := hb.at 1 rfl
  clear hb
  go_enter Try.func25, Try.ntmps25
  go_wp2
  go_ret
  exact ⟨rfl, rfl⟩

/-- What the call's own list holds. -/
def Outs (w : World) (B : Nat) (ov : Value) (os : List Int) : Prop := w.ownsRow B 3 1 ov os.length (os.map (Value.int .i64))

set_option maxRecDepth 100000 in
set_option maxHeartbeats 2000000 in
theorem free1_any (w : World) (c bw bc bo B : Nat) (tv ov : Value) (k : Ck) (os : List Int) (h : IsClock w c bw tv k) (hk : k.Ok) (hc : Blk w bc 26 #[.pointer (some ⟨c, 0, none⟩)]) (ho : Blk w bo 41 #[ov]) (hO : Outs w B ov os) (hB : B ≤ w.heap.size) (hl : os.length ≤ 100000) (th ep : Int) :
    Calls Try.prog 24 #[.agg #[.int .i64 th, .int .i64 ep], .pointer (some ⟨bc, 0, none⟩), .pointer (some ⟨bo, 0, none⟩)] w fun e w' => e = .returned (.bool (freeP k ep)) ∧
      ∃ ov', Blk w' bo 41 #[ov'] ∧ Outs w' B ov' (if freeP k ep then os ++ [th] else os) ∧ Chg (bo :: ov.ownBlock.toList) w w' ∧ Moved w ov ov' := by
  have c3 := h.1.at 3 rfl
  have d0 := hc.at 0 rfl
  have hlt := h.1.lt
  have hlt2 := hc.lt
  have hlt3 := ho.lt
  by_cases hs : ep ≤ k.snap
  · have hW := works_any (w.alloc (.cells #[.int .i64 th, .int .i64 ep] 58)).drew c bw tv k (h.chg ((Chg.refl [] _).alloc _).drew (by simp) (by simp)) hk (fun n => decide (n ≤ ep)) 25 (.pointer (some ⟨w.heap.size, 0, none⟩)) call25
      (fun x => free11_any _ w.heap.size th ep ((Blk.new w 58 #[.int .i64 th, .int .i64 ep]).drew.alloc _) x)
    have hfp : freeP k ep = !worksP k.ws fun n => decide (n ≤ ep) := by simp [freeP, hs]
    rw [hfp]
    clear hfp
    generalize worksP k.ws (fun n => decide (n ≤ ep)) = bb at hW
    cases bb with
    | true =>
      have HH := Lib.hid h
      have HO := Lib.hid hO
      clear h hO
      go_enter Try.func24, Try.ntmps24
      go_wp2
      refine wp_region_still_tail 10 (by kernel_rfl) (by kernel_rfl) ?_
      simp only [List.take_succ_cons, List.take_zero, List.drop_succ_cons, List.drop_zero]
      change wpStill _ _ (World.drew _) _ _ _
      repeat still_step
      refine wpStill_nil ?_
      change wpList _ _ _ _ _ (World.drew _)
      go_wp2_with (go_at_call 21; refine (hW).mono ?_; rintro e w' ⟨rfl, rfl⟩)
      go_ret
      refine ⟨rfl, ov, ?_, ?_, ?_, .inl rfl⟩
      · (apply Blk.conv; repeat first | with_reducible apply Blk.drew | with_reducible apply Blk.drewN | with_reducible apply Blk.alloc | with_reducible apply Blk.set | (with_reducible apply Blk.far'; (focus (dsimp only; omega))))
        · exact ho
        rfl
      · exact own_chg HO.out ((((Chg.refl [] _).alloc _).drew).alloc _) (by simp)
      · exact (((Chg.refl _ _).alloc _).drew).alloc _
    | false =>
      obtain ⟨A, cap, rfl, hcap⟩ := own_form hO
      obtain ⟨i0, hi, hz0, hz1, hz2⟩ := info_parts Try.info3
      have HI := Lib.hid hi
      have HH := Lib.hid h
      have HO := Lib.hid hO
      have o0 := ho.at 0 rfl
      have fo := ho.free 0
      have hne := own_ne hO ho (by decide)
      have HN := Lib.hid hne
      clear h hO hi hne
      go_enter Try.func24, Try.ntmps24
      go_wp2
      refine wp_region_still_tail 10 (by kernel_rfl) (by kernel_rfl) ?_
      simp only [List.take_succ_cons, List.take_zero, List.drop_succ_cons, List.drop_zero]
      change wpStill _ _ (World.drew _) _ _ _
      repeat still_step
      refine wpStill_nil ?_
      change wpList _ _ _ _ _ (World.drew _)
      go_wp2_with (first | (go_at_call 21; refine (hW).mono ?_; rintro e w' ⟨rfl, rfl⟩) | (at_builtin; refine wpList_append_lies _ rfl (.tmp 20) (.tmp 23) 41 rfl B 3 i0 (.int .i64 0) 1 8 Try.underlying41 HI.out hz0 hz1 hz2 rfl (by decide) _ os.length (os.map (Value.int .i64)) rfl ?hown ⟨w.heap.size + 2, 0, none⟩ 1 1 [.int .i64 th] rfl rfl ?hnews ?h1 (by decide) (by unfold maxLen; omega) (by omega) ?hB _ rfl ?rest))
      case hown => exact ((((HO.out.alloc _).alloc _).alloc _).drew)
      case hnews => intro u hj v; exact cell_one_new ((w.alloc (Obj.cells #[Value.int .i64 th, Value.int .i64 ep] 58)).alloc (Obj.cells #[Value.func (Fn.func 25) #[] #[Value.pointer (some ⟨w.heap.size, 0, none⟩)]] 43)) (.int .i64 th) 3 u hj (by simpa using v) |> fun h => by simpa using h
      case h1 => intro u hu; simp at hu; subst hu; rfl
      case hB => simp; omega
      intro g cap' w1 hown' hgr hbl hlt'
      have hO3 := (((((Chg.refl [] w).alloc (Obj.cells #[Value.int .i64 th, Value.int .i64 ep] 58)).alloc (Obj.cells #[Value.func (Fn.func 25) #[] #[Value.pointer (some ⟨w.heap.size, 0, none⟩)]] 43)).alloc (Obj.cells #[Value.int .i64 th] 3)).drew)
      have k0 := (ho.chg hO3 (by simp)).grown hgr HN.out
      have k1 := k0.at 0 rfl
      have l1 := k0.free 0
      go_wp2
      go_ret
      have hne : bo ≠ g := by
        rintro rfl
        rcases hbl with h | h
        · exact HN.out h.symm
        · first | omega | (simp at h; omega)
      refine ⟨rfl, _, k0.set 0 _, ?_, ?_, ?_⟩
      · have := ownsRow_setCell_other hown' (a := ⟨bo, 0, none⟩) (by simp only [Value.ownBlock]; intro e; injection e with e; exact hne e.symm) (.slice (some ⟨g, 0, none⟩) (os.length + 1) cap')
        unfold Outs
        simpa using this
      · refine ((hO3.more (l' := bo :: (Value.slice A os.length cap).ownBlock.toList) (by simp)).trans (Chg.of_grown (l := (Value.slice A os.length cap).ownBlock.toList) hgr (fun g' hg' => .inl (by rw [hg']; simp))) (fun q hq => .inl (List.mem_cons_of_mem _ hq))).setCell (.inl (by simp)) _
      · rcases hbl with h | h
        · exact .inl h.symm
        · exact .inr ⟨g, rfl, by first | omega | (simp at h; omega)⟩
  · have hfp : freeP k ep = false := by simp [freeP, hs]
    rw [hfp]
    clear hfp
    have HH := Lib.hid h
    have HO := Lib.hid hO
    have hd : decide (ep ≤ k.snap) = false := by simpa using hs
    clear h hO hs
    go_enter Try.func24, Try.ntmps24
    go_wp2
    go_quiet (fail)
    go_wp2
    go_ret
    refine ⟨rfl, ov, ?_, ?_, ?_, .inl rfl⟩
    · (apply Blk.conv; repeat first | with_reducible apply Blk.drew | with_reducible apply Blk.drewN | with_reducible apply Blk.alloc | with_reducible apply Blk.set | (with_reducible apply Blk.far'; (focus (dsimp only; omega))))
      · exact ho
      rfl
    · exact own_chg HO.out (((Chg.refl [] _).alloc _).drewN _) (by simp)
    · exact ((Chg.refl _ _).alloc _).drewN _

end Go.Proofs.Ytmmaklddbkdenaa
