/- Retire and Free of package epoch, each by its contract; conditions: bounds on the clock's numbers, at most 4096 things. -/
import Derived.Test.YtmmaklddbkdenaaCkAdv
import Derived.Deep.AppendLies
import Derived.Deep.RegionLaw
import Derived.Laws.OwnMore
namespace Go.Proofs.Ytmmaklddbkdenaa
open Go.RowKit

theorem Try.info58 : (Try.prog.info? 58).map (fun i => (i.zero, i.size, i.bytes)) = some (some (.agg #[.int .i64 0, .int .i64 0]), 2, 16) := by kernel_rfl

def thCells (ts : List (Int × Int)) : List Value := ts.flatMap fun x => [.int .i64 x.1, .int .i64 x.2]
theorem thCells_len (ts : List (Int × Int)) : (thCells ts).length = ts.length * 2 := by
  induction ts with
  | nil => rfl
  | cons x l ih => simp only [thCells, List.flatMap_cons, List.length_append] at ih ⊢; rw [ih]; simp; omega
theorem thCells_snoc (ts : List (Int × Int)) (x : Int × Int) : thCells (ts ++ [x]) = thCells ts ++ [.int .i64 x.1, .int .i64 x.2] := by simp [thCells]

/-- The things of a clock: the value tv owns them. -/
def Things (w : World) (tv : Value) (ts : List (Int × Int)) : Prop := w.ownsRow 0 58 2 tv ts.length (thCells ts)

set_option maxRecDepth 100000 in
set_option maxHeartbeats 1000000 in
theorem retire_full (w : World) (c bw : Nat) (tv : Value) (k : Ck) (ts : List (Int × Int)) (h : IsClock w c bw tv k) (ht : Things w tv ts) (hf : 4096 ≤ ts.length) (hl : ts.length ≤ 1000000) (x : Int) :
    Calls Try.prog 16 #[.pointer (some ⟨c, 0, none⟩), .int .i64 x] w fun e w' => e = .returned (.int .i64 2) ∧ w = w' := by
  obtain ⟨A, cap, rfl, _⟩ := own_form ht
  have c4 := h.1.at 4 rfl
  clear h ht
  go_enter Try.func16, Try.ntmps16
  go_wp2
  go_ret
  exact ⟨rfl, rfl⟩

set_option maxRecDepth 100000 in
set_option maxHeartbeats 1000000 in
theorem retire_room (w : World) (c bw : Nat) (tv : Value) (k : Ck) (ts : List (Int × Int)) (h : IsClock w c bw tv k) (ht : Things w tv ts) (hf : ts.length < 4096) (x : Int) :
    Calls Try.prog 16 #[.pointer (some ⟨c, 0, none⟩), .int .i64 x] w fun e w' => e = .returned (.int .i64 0) ∧ ∃ tv', IsClock w' c bw tv' k ∧ Things w' tv' (ts ++ [(x, k.glob)]) ∧ Chg (c :: tv.ownBlock.toList) w w' ∧
      (tv'.ownBlock = tv.ownBlock ∨ ∃ g, tv'.ownBlock = some g ∧ w.heap.size ≤ g) := by
  obtain ⟨A, cap, rfl, hcap⟩ := own_form ht
  have c2 := h.1.at 2 rfl
  have c4 := h.1.at 4 rfl
  have f4 := h.1.free 4
  obtain ⟨i0, hi, hz0, hz1, hz2⟩ := info_parts Try.info58
  have HI := Lib.hid hi
  have HH := Lib.hid h
  have HT := Lib.hid ht
  have hlt := h.1.lt
  have hne := own_ne ht h.1 (by decide)
  have HN := Lib.hid hne
  have hO : ∀ o, (w.alloc o).drew.ownsRow 0 58 2 (.slice A ts.length cap) ts.length (thCells ts) := fun o => (ht.alloc o).drew
  have HO := Lib.hid hO
  clear h ht hi hne hO
  go_enter Try.func16, Try.ntmps16
  go_wp2
  go_region_law (refine step_append_lies _ rfl (.tmp 15) (.tmp 22) 52 rfl 0 58 i0 (.agg #[.int .i64 0, .int .i64 0]) 2 16 Try.underlying52 HI.out hz0 hz1 hz2 rfl (by decide) _ ts.length (thCells ts) rfl (HO.out _) ⟨w.heap.size, 0, none⟩ 1 1 [.int .i64 x, .int .i64 k.glob] rfl rfl (fun j u hu => cell_two_new w _ _ 58 j u hu) (by intro u hu; simp at hu; rcases hu with rfl | rfl <;> rfl) (by decide) (by unfold maxLen; omega) (by omega) (Nat.zero_le _) _ rfl ?_; intro g cap' w1 hown' hgr' hbl' hlt'; have k0 := (((HH.out.1.alloc _).drew).grown hgr' HN.out); have k4 := k0.at 4 rfl; have l4 := k0.free 4)
  all_goals go_wp2
  all_goals go_ret
  all_goals
    have hgr : (w.alloc (Obj.cells #[Value.int .i64 x, Value.int .i64 k.glob] 58)).drew.grownBy w1 (Value.slice A ts.length cap).ownBlock := hgr'
    have hbl : (Value.slice A ts.length cap).ownBlock = some g ∨ g = w.heap.size + 1 := by
      rcases hbl' with h | h
      · exact .inl h
      · exact .inr (by simpa using h)
    have hne : c ≠ g := by
      rintro rfl
      rcases hbl with h | h
      · exact HN.out h.symm
      · omega
    have kb := ((HH.out.2.alloc (Obj.cells #[Value.int .i64 x, Value.int .i64 k.glob] 58)).drew).grown hgr (own_ne HT.out HH.out.2 (by decide))
    have hcb : c ≠ bw := HH.out.1.ne HH.out.2 (by decide)
    refine ⟨rfl, _, ⟨k0.set 4 _, kb.far (by dsimp only; omega) _⟩, ?_, ?_, ?_⟩
    · have := ownsRow_setCell_other hown' (a := ⟨c, 4, none⟩) (by simp only [Value.ownBlock]; intro e; injection e with e; exact hne e.symm) (.slice (some ⟨g, 0, none⟩) (ts.length + 1) cap')
      unfold Things
      rw [thCells_snoc, List.length_append]
      exact this
    · have hc1 : Chg (c :: (Value.slice A ts.length cap).ownBlock.toList) w (w.alloc (Obj.cells #[Value.int .i64 x, Value.int .i64 k.glob] 58)).drew := ((Chg.refl _ _).alloc _).drew
      refine (hc1.trans (Chg.of_grown (l := (Value.slice A ts.length cap).ownBlock.toList) hgr (fun g' hg' => .inl (by rw [hg']; simp))) (fun q hq => .inl (List.mem_cons_of_mem _ hq))).setCell (.inl (by simp)) _
    · rcases hbl with h | h
      · exact .inl h.symm
      · exact .inr ⟨g, rfl, by omega⟩

/-- What retiring a thing answers, and what things there are then. -/
def retE (ts : List (Int × Int)) : Int := if 4096 ≤ ts.length then 2 else 0
def retT (ts : List (Int × Int)) (x : Int × Int) : List (Int × Int) := if 4096 ≤ ts.length then ts else ts ++ [x]
theorem retT_len {ts : List (Int × Int)} (h : ts.length ≤ 4096) (x : Int × Int) : (retT ts x).length ≤ 4096 := by
  unfold retT; split
  · exact h
  · simp; omega

/-- May the row at tv have moved to tv'? It lies where it lay, or in a new block. -/
def Moved (w : World) (tv tv' : Value) : Prop := tv'.ownBlock = tv.ownBlock ∨ ∃ g, tv'.ownBlock = some g ∧ w.heap.size ≤ g

theorem retire_any (w : World) (c bw : Nat) (tv : Value) (k : Ck) (ts : List (Int × Int)) (h : IsClock w c bw tv k) (ht : Things w tv ts) (hl : ts.length ≤ 4096) (x : Int) :
    Calls Try.prog 16 #[.pointer (some ⟨c, 0, none⟩), .int .i64 x] w fun e w' => e = .returned (.int .i64 (retE ts)) ∧ ∃ tv', IsClock w' c bw tv' k ∧ Things w' tv' (retT ts (x, k.glob)) ∧ Chg (c :: tv.ownBlock.toList) w w' ∧ Moved w tv tv' := by
  by_cases hf : 4096 ≤ ts.length
  · rw [show retE ts = 2 by simp [retE, hf], show retT ts (x, k.glob) = ts by simp [retT, hf]]
    exact (retire_full w c bw tv k ts h ht hf (by omega) x).mono fun e w' ⟨he, hw⟩ => by subst hw; exact ⟨he, tv, h, ht, Chg.refl _ _, .inl rfl⟩
  · rw [show retE ts = 0 by simp [retE, hf], show retT ts (x, k.glob) = ts ++ [(x, k.glob)] by simp [retT, hf]]
    exact retire_room w c bw tv k ts h ht (by omega) x

end Go.Proofs.Ytmmaklddbkdenaa
