/- Dial of package stream by its contract; conditions: at most 64 connections. -/
import Derived.Test.YtnbjbjpfleiogaaStOps
namespace Go.Proofs.Ytnbjbjpfleiogaa
open Go.RowKit

theorem Try.info56 : (Try.prog.info? 56).map (fun i => (i.zero, i.size, i.bytes)) = some (some (.agg #[.string ⟨#[]⟩, .string ⟨#[]⟩, .bool false, .string ⟨#[]⟩, .string ⟨#[]⟩, .bool false]), 6, 80) := by kernel_rfl

set_option maxRecDepth 100000 in
theorem dial_full (w : World) (nb n : Nat) (v : Value) (ps : List Pipe) (h : IsNet w nb v ps n) (hn : 64 ≤ n) (hn2 : n ≤ 1000) :
    Calls Try.prog 10 #[.pointer (some ⟨nb, 0, none⟩)] w fun e w' => e = .returned (.tuple #[.int .i64 0, .int .i64 2]) ∧ w = w' := by
  obtain ⟨A, cap, rfl, _⟩ := h.form
  have c0 := h.net.at 0 rfl
  clear h
  go_enter Try.func10, Try.ntmps10
  go_wp2
  go_ret2
  exact ⟨rfl, rfl⟩

theorem cells_new (w : World) (cs : List Value) (t : TypeId) (j : Nat) (u : Value) (h : cs[j]? = some u) : (w.alloc (.cells cs.toArray t)).cell? ((⟨w.heap.size, 0, none⟩ : Addr).add j) = some u := by
  have := (Blk.new w t cs.toArray).at j (v := u) (by simpa using h)
  rw [Addr.add_lit, Nat.zero_add]
  exact this

/-- What a Dial with room leaves. -/
def DialE (nb : Nat) (v : Value) (ps : List Pipe) (n : Nat) (w : World) (e : Ending) (w' : World) : Prop :=
  e = .returned (.tuple #[.int .i64 n, .int .i64 0]) ∧ ∃ v', IsNet w' nb v' (ps ++ [pipe0, pipe0]) (n + 1) ∧ Chg (nb :: v.ownBlock.toList) w w' ∧ (∀ g, v'.ownBlock = some g → v.ownBlock = some g ∨ w.heap.size ≤ g)

set_option maxRecDepth 100000 in
set_option maxHeartbeats 1000000 in
theorem dial_room (w : World) (nb n : Nat) (v : Value) (ps : List Pipe) (h : IsNet w nb v ps n) (hn : n < 64) :
    Calls Try.prog 10 #[.pointer (some ⟨nb, 0, none⟩)] w (DialE nb v ps n w) := by
  obtain ⟨A, cap, rfl, _⟩ := h.form
  have c0 := h.net.at 0 rfl
  have f0 := h.net.free 0
  have hlt := h.net.lt
  obtain ⟨i0, hi, hz0, hz1, hz2⟩ := info_parts Try.info56
  have HI := Lib.hid hi
  have H := Lib.hid h
  have HN := Lib.hid (h.ne)
  clear h hi
  go_enter Try.func10, Try.ntmps10
  go_wp2_with (at_builtin; refine wpList_append_lies _ rfl (.tmp 14) (.tmp 16) 51 rfl 0 56 i0 (.agg #[.string ⟨#[]⟩, .string ⟨#[]⟩, .bool false, .string ⟨#[]⟩, .string ⟨#[]⟩, .bool false]) 6 80 Try.underlying51 HI.out hz0 hz1 hz2 rfl (by decide) _ n (netCells ps) rfl (H.out.row.alloc _) ⟨w.heap.size, 0, none⟩ 1 1 [.string ⟨#[]⟩, .string ⟨#[]⟩, .bool false, .string ⟨#[]⟩, .string ⟨#[]⟩, .bool false] rfl rfl ?hnews (by decide) (by decide) (by unfold maxLen; omega) (by omega) (Nat.zero_le _) _ rfl ?_)
  case hnews => exact cells_new w [.string ⟨#[]⟩, .string ⟨#[]⟩, .bool false, .string ⟨#[]⟩, .string ⟨#[]⟩, .bool false] 56
  intro g1 p1 w1 own1 gr1 bl1 lt1
  have hgr : (w.alloc (Obj.cells #[.string ⟨#[]⟩, .string ⟨#[]⟩, .bool false, .string ⟨#[]⟩, .string ⟨#[]⟩, .bool false] 56)).grownBy w1 (Value.slice A n cap).ownBlock := gr1
  have hbl : (Value.slice A n cap).ownBlock = some g1 ∨ g1 = w.heap.size + 1 := bl1
  have hne : g1 ≠ nb := by
    rcases hbl with h | h
    · exact HN.out g1 h
    · omega
  have hc : Chg (nb :: (Value.slice A n cap).ownBlock.toList) w w1 := ((Chg.refl _ _).alloc _).trans (Chg.of_grown (l := (Value.slice A n cap).ownBlock.toList) hgr (fun g' hg' => .inl (by rw [hg']; simp))) (fun q hq => .inl (List.mem_cons_of_mem _ hq))
  have k0 := (H.out.net.alloc _).grown hgr (own_ne H.out.row H.out.net (by decide))
  have d0 := k0.at 0 rfl
  have e0 := k0.free 0
  have HN1 := Lib.hid hne
  have HB := Lib.hid hbl
  have HO := Lib.hid own1
  clear own1 gr1 bl1 hgr hbl hne
  go_wp2_with fail
  go_ret2
  refine ⟨?_, .slice (some ⟨g1, 0, none⟩) (n + 1) p1, ⟨k0.set 0 _, ?_⟩, hc.setCell (.inl (by simp)) _, ?_⟩
  · rfl
  · rw [netCells_append]
    exact ownsRow_setCell_other HO.out (a := ⟨nb, 0, none⟩) (by simp only [Value.ownBlock]; intro e; injection e with e; exact HN1.out e) _
  · intro g hg
    simp only [Value.ownBlock, Option.some.injEq] at hg
    subst hg
    rcases HB.out with h | h
    · exact .inl h
    · exact .inr (by omega)

end Go.Proofs.Ytnbjbjpfleiogaa
