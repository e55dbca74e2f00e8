/- Free of package epoch by its contract; conditions: bounds on the clock's numbers, at most 4096 things. -/
import Derived.Test.YtmmaklddbkdenaaCkDelete2
import Derived.Deep.RegionHeld3
namespace Go.Proofs.Ytmmaklddbkdenaa
open Go.RowKit

def FreeE (k : Ck) (ts : List (Int × Int)) (c bw : Nat) (tv : Value) (w : World) (e : Ending) (w' : World) : Prop :=
  ∃ (tv' ov' : Value), e = .returned ov' ∧ IsClock w' c bw tv' k ∧ Things w' tv' (keepT k ts) ∧ tv'.ownBlock = tv.ownBlock ∧ Outs w' w.heap.size ov' (toldT k ts) ∧ Chg (c :: tv.ownBlock.toList) w w'

set_option maxRecDepth 100000 in
set_option maxHeartbeats 2000000 in
theorem free_any (w : World) (c bw : Nat) (tv : Value) (k : Ck) (ts : List (Int × Int)) (h : IsClock w c bw tv k) (hk : k.Ok) (hts : ts.length ≤ 4096) (ht : Things w tv ts) :
    Calls Try.prog 17 #[.pointer (some ⟨c, 0, none⟩)] w (FreeE k ts c bw tv w) := by
  obtain ⟨A, cap, rfl, hcap⟩ := own_form ht
  have hlt := h.1.lt
  have hlt2 := h.2.lt
  have hA : ∀ a, A = some a → a.block < w.heap.size := by
    intro a ha
    subst ha
    exact (ht.lt _ rfl).2
  have hne1 := own_ne ht h.1 (by decide)
  have hne2 := own_ne ht h.2 (by decide)
  have hch : Chg [] w (((w.alloc (.cells #[.pointer (some ⟨c, 0, none⟩)] 26)).alloc (.cells #[.slice none 0 0] 41)).drew) := (((Chg.refl [] w).alloc _).alloc _).drew
  have hD := deleteFunc_any (((w.alloc (.cells #[.pointer (some ⟨c, 0, none⟩)] 26)).alloc (.cells #[.slice none 0 0] 41)).drew) c bw w.heap.size (w.heap.size + 1) (w.heap.size + 1) (.slice A ts.length cap) (.slice none 0 0) k [] A cap ts
    (h.chg hch (by simp) (by simp)) hk ((Blk.new w 26 #[.pointer (some ⟨c, 0, none⟩)]).alloc _) (Blk.new' _ 41 _ (by simp)) (World.ownsRow_nil _ _ _ _) (by simp) (Nat.le_refl _) (by omega) (by omega) (by omega) (by simp) hts (own_chg ht hch (by simp)) (fun a ha => by have := hA a ha; omega)
  have hnot1 : c ∉ (Value.slice A ts.length cap).ownBlock.toList := by intro hx; exact hne1 (by simpa using hx : (Value.slice A ts.length cap).ownBlock = some c).symm
  have hnot2 : w.heap.size ∉ (Value.slice A ts.length cap).ownBlock.toList := by intro hx; exact absurd (ht.lt _ (by simpa using hx)).2 (by omega)
  have HX1 := Lib.hid hnot1
  have HX2 := Lib.hid hnot2
  clear hnot1 hnot2
  have c4 := h.1.at 4 rfl
  have f4 := h.1.free 4
  have HH := Lib.hid h
  have HT := Lib.hid ht
  have HA := Lib.hid hA
  have HN1 := Lib.hid hne1
  have HN2 := Lib.hid hne2
  have HC := Lib.hid hch
  clear h ht hA hne1 hne2 hch
  go_enter Try.func17, Try.ntmps17
  go_wp2
  go_region_law (go_simp; go_at_call 23; refine hD.mono ?_; rintro e w3 ⟨tv3, ov3, he, ht3, ho3, hb3, hO3, hbc⟩; obtain ⟨A3, cap3, rfl, _⟩ := own_form ht3; obtain ⟨A4, cap4, rfl, _⟩ := own_form hO3; subst he; have b0 := hb3.at 0 rfl; have k3 := hbc.blk (HH.out.1.chg HC.out (by simp)) (by omega) HX1.out; have x3 := hbc.blk ((Blk.new w 26 #[.pointer (some ⟨c, 0, none⟩)]).alloc (.cells #[.slice none 0 0] 41)).drew (by omega) HX2.out; have y1 := x3.at 0 rfl; have y2 := k3.at 4 rfl; have y3 := k3.free 4)
  all_goals go_wp2
  all_goals go_ret
  all_goals
    have hzz := hbc.size
    simp only [World.size_drew, World.size_alloc] at hzz
    have n12 := HH.out.1.ne HH.out.2 (by decide)
    have kb3 := hbc.blk (HH.out.2.chg HC.out (by simp)) (by omega) (fun hx => HN2.out (by simpa using hx : (Value.slice A ts.length cap).ownBlock = some bw).symm)
    have hn3 := own_ne ht3 k3 (by decide)
    refine ⟨_, _, rfl, ⟨k3.set 4 _, kb3.far (by dsimp only; omega) _⟩, ownsRow_setCell_other ht3 (a := ⟨c, 4, none⟩) hn3.symm _, ‹_›, ?_, ?_⟩
    · have hO4 := ownsRow_setCell_other hO3 (a := ⟨c, 4, none⟩) (own_ne hO3 k3 (by decide)).symm (.slice A3 (keepT k ts).length cap3)
      refine ⟨hO4.1, ?_⟩
      rcases hO4.2 with h0 | ⟨g, cp, cur, e1, hb, rest⟩
      · exact .inl (by simpa using h0)
      · exact .inr ⟨g, cp, cur, by simpa using e1, by omega, by simpa using rest⟩
    · have hD0 : BChg w.heap.size (Value.slice A ts.length cap).ownBlock.toList w w3 := ⟨hbc.os, hbc.tape, hbc.output, by omega, fun q hq hn => (hbc.block q (by omega) hn).trans (HC.out.block q hq (by simp))⟩
      exact (hD0.to_chg.more (fun q hq => .inl (List.mem_cons_of_mem _ hq))).setCell (.inl (by simp)) _

end Go.Proofs.Ytmmaklddbkdenaa
