/- What the calls of both nets answer where there is no such connection or side, or where the number is below nothing; Dial of the document's net; conditions: as said. -/
import Derived.Test.YtnbjbjpfleiogaaStRefOps
namespace Go.Proofs.Ytnbjbjpfleiogaa
open Go.RowKit

theorem Try.info65 : (Try.prog.info? 65).map (fun i => (i.zero, i.size, i.bytes)) = some (some (.agg #[.string ⟨#[]⟩, .int .i64 0, .int .i64 0, .bool false, .string ⟨#[]⟩, .int .i64 0, .int .i64 0, .bool false]), 8, 80) := by kernel_rfl
set_option maxRecDepth 100000 in
theorem rdial_full (w : World) (nb n : Nat) (v : Value) (ps : List Way) (h : IsRef w nb v ps n) (hn : 64 ≤ n) (hn2 : n ≤ 1000) :
    Calls Try.prog 22 #[.pointer (some ⟨nb, 0, none⟩)] w fun e w' => e = .returned (.tuple #[.int .i64 0, .int .i64 2]) ∧ w = w' := by
  obtain ⟨A, cap, rfl, _⟩ := h.form
  have c0 := h.net.at 0 rfl
  clear h
  go_enter Try.func22, Try.ntmps22
  go_wp2
  go_ret2
  exact ⟨rfl, rfl⟩

/-- What a Dial with room leaves. -/
def RDialE (nb : Nat) (v : Value) (ps : List Way) (n : Nat) (w : World) (e : Ending) (w' : World) : Prop :=
  e = .returned (.tuple #[.int .i64 n, .int .i64 0]) ∧ ∃ v', IsRef w' nb v' (ps ++ [way0, way0]) (n + 1) ∧ Chg (nb :: v.ownBlock.toList) w w' ∧ (∀ g, v'.ownBlock = some g → v.ownBlock = some g ∨ w.heap.size ≤ g)

set_option maxRecDepth 100000 in
set_option maxHeartbeats 1000000 in
theorem rdial_room (w : World) (nb n : Nat) (v : Value) (ps : List Way) (h : IsRef w nb v ps n) (hn : n < 64) :
    Calls Try.prog 22 #[.pointer (some ⟨nb, 0, none⟩)] w (RDialE nb v ps n w) := by
  obtain ⟨A, cap, rfl, _⟩ := h.form
  have c0 := h.net.at 0 rfl
  have f0 := h.net.free 0
  have hlt := h.net.lt
  obtain ⟨i0, hi, hz0, hz1, hz2⟩ := info_parts Try.info65
  have HI := Lib.hid hi
  have H := Lib.hid h
  have HN := Lib.hid (h.ne)
  clear h hi
  go_enter Try.func22, Try.ntmps22
  go_wp2_with (at_builtin; refine wpList_append_lies _ rfl (.tmp 14) (.tmp 16) 60 rfl 0 65 i0 (.agg #[.string ⟨#[]⟩, .int .i64 0, .int .i64 0, .bool false, .string ⟨#[]⟩, .int .i64 0, .int .i64 0, .bool false]) 8 80 Try.underlying60 HI.out hz0 hz1 hz2 rfl (by decide) _ n (refCells ps) rfl (H.out.row.alloc _) ⟨w.heap.size, 0, none⟩ 1 1 [.string ⟨#[]⟩, .int .i64 0, .int .i64 0, .bool false, .string ⟨#[]⟩, .int .i64 0, .int .i64 0, .bool false] rfl rfl ?hnews (by decide) (by decide) (by unfold maxLen; omega) (by omega) (Nat.zero_le _) _ rfl ?_)
  case hnews => exact cells_new w [.string ⟨#[]⟩, .int .i64 0, .int .i64 0, .bool false, .string ⟨#[]⟩, .int .i64 0, .int .i64 0, .bool false] 65
  intro g1 p1 w1 own1 gr1 bl1 lt1
  have hgr : (w.alloc (Obj.cells #[.string ⟨#[]⟩, .int .i64 0, .int .i64 0, .bool false, .string ⟨#[]⟩, .int .i64 0, .int .i64 0, .bool false] 65)).grownBy w1 (Value.slice A n cap).ownBlock := gr1
  have hbl : (Value.slice A n cap).ownBlock = some g1 ∨ g1 = w.heap.size + 1 := bl1
  have hne : g1 ≠ nb := by
    rcases hbl with h | h
    · exact HN.out g1 h
    · omega
  have hc : Chg (nb :: (Value.slice A n cap).ownBlock.toList) w w1 := ((Chg.refl _ _).alloc _).trans (Chg.of_grown (l := (Value.slice A n cap).ownBlock.toList) hgr (fun g' hg' => .inl (by rw [hg']; simp))) (fun q hq => .inl (List.mem_cons_of_mem _ hq))
  have k0 := (H.out.net.alloc _).grown hgr (own_ne H.out.row H.out.net (by decide))
  have d0 := k0.at 0 rfl
  have e0 := k0.free 0
  have HN1 := Lib.hid hne
  have HB := Lib.hid hbl
  have HO := Lib.hid own1
  clear own1 gr1 bl1 hgr hbl hne
  go_wp2_with fail
  go_ret2
  refine ⟨?_, .slice (some ⟨g1, 0, none⟩) (n + 1) p1, ⟨k0.set 0 _, ?_⟩, hc.setCell (.inl (by simp)) _, ?_⟩
  · rfl
  · rw [refCells_append]
    exact ownsRow_setCell_other HO.out (a := ⟨nb, 0, none⟩) (by simp only [Value.ownBlock]; intro e; injection e with e; exact HN1.out e) _
  · intro g hg
    simp only [Value.ownBlock, Option.some.injEq] at hg
    subst hg
    rcases HB.out with h | h
    · exact .inl h
    · exact .inr (by omega)


section
variable (w : World) (nb n : Nat) (v : Value) (conn side : Int) (hb : toE n conn side ≠ 0)
include hb

theorem write_bad (ps : List Pipe) (h : IsNet w nb v ps n) (d : ByteArray) :
    Calls Try.prog 12 #[.pointer (some ⟨nb, 0, none⟩), .int .i64 conn, .int .i64 side, .string d] w fun e w' => e = .returned (.int .i64 (toE n conn side)) ∧ w = w' := by
  have hF := from_bad w nb n v ps h conn side hb
  clear h
  have hb' : (toE n conn side != 0) = true := by simp [hb]
  generalize toE n conn side = z at hb hb' hF ⊢
  go_enter Try.func12, Try.ntmps12
  go_wp2_with (go_at_call 20; refine hF.mono ?_; rintro e w1 ⟨rfl, rfl⟩)
  go_ret
  exact ⟨rfl, rfl⟩

theorem arrive_bad (ps : List Pipe) (h : IsNet w nb v ps n) (m : Int) :
    Calls Try.prog 13 #[.pointer (some ⟨nb, 0, none⟩), .int .i64 conn, .int .i64 side, .int .i64 m] w fun e w' => e = .returned (.tuple #[.int .i64 0, .int .i64 (toE n conn side)]) ∧ w = w' := by
  have hF := to_bad w nb n v ps h conn side hb
  clear h
  have hb' : (toE n conn side != 0) = true := by simp [hb]
  generalize toE n conn side = z at hb hb' hF ⊢
  go_enter Try.func13, Try.ntmps13
  go_wp2_with (go_at_call 21; refine hF.mono ?_; rintro e w1 ⟨rfl, rfl⟩)
  go_ret2
  exact ⟨rfl, rfl⟩

theorem read_bad (ps : List Pipe) (h : IsNet w nb v ps n) (m : Int) :
    Calls Try.prog 14 #[.pointer (some ⟨nb, 0, none⟩), .int .i64 conn, .int .i64 side, .int .i64 m] w fun e w' => e = .returned (.tuple #[.string ⟨#[]⟩, .int .i64 (toE n conn side)]) ∧ w = w' := by
  have hF := to_bad w nb n v ps h conn side hb
  clear h
  have hb' : (toE n conn side != 0) = true := by simp [hb]
  generalize toE n conn side = z at hb hb' hF ⊢
  go_enter Try.func14, Try.ntmps14
  go_wp2_with (go_at_call 21; refine hF.mono ?_; rintro e w1 ⟨rfl, rfl⟩)
  go_ret2
  exact ⟨rfl, rfl⟩

theorem pending_bad (ps : List Pipe) (h : IsNet w nb v ps n) :
    Calls Try.prog 15 #[.pointer (some ⟨nb, 0, none⟩), .int .i64 conn, .int .i64 side] w fun e w' => e = .returned (.tuple #[.int .i64 0, .int .i64 0, .int .i64 (toE n conn side)]) ∧ w = w' := by
  have hF := to_bad w nb n v ps h conn side hb
  clear h
  have hb' : (toE n conn side != 0) = true := by simp [hb]
  generalize toE n conn side = z at hb hb' hF ⊢
  go_enter Try.func15, Try.ntmps15
  go_wp2_with (go_at_call 21; refine hF.mono ?_; rintro e w1 ⟨rfl, rfl⟩)
  go_ret3
  exact ⟨rfl, rfl⟩

theorem close_bad (ps : List Pipe) (h : IsNet w nb v ps n) :
    Calls Try.prog 16 #[.pointer (some ⟨nb, 0, none⟩), .int .i64 conn, .int .i64 side] w fun e w' => e = .returned (.int .i64 (toE n conn side)) ∧ w = w' := by
  have hF := from_bad w nb n v ps h conn side hb
  clear h
  have hb' : (toE n conn side != 0) = true := by simp [hb]
  generalize toE n conn side = z at hb hb' hF ⊢
  go_enter Try.func16, Try.ntmps16
  go_wp2_with (go_at_call 20; refine hF.mono ?_; rintro e w1 ⟨rfl, rfl⟩)
  go_ret
  exact ⟨rfl, rfl⟩

theorem ended_bad (ps : List Pipe) (h : IsNet w nb v ps n) :
    Calls Try.prog 17 #[.pointer (some ⟨nb, 0, none⟩), .int .i64 conn, .int .i64 side] w fun e w' => e = .returned (.tuple #[.bool false, .int .i64 (toE n conn side)]) ∧ w = w' := by
  have hF := to_bad w nb n v ps h conn side hb
  clear h
  have hb' : (toE n conn side != 0) = true := by simp [hb]
  generalize toE n conn side = z at hb hb' hF ⊢
  go_enter Try.func17, Try.ntmps17
  go_wp2_with (go_at_call 21; refine hF.mono ?_; rintro e w1 ⟨rfl, rfl⟩)
  go_ret2
  exact ⟨rfl, rfl⟩

theorem rwrite_bad (ps : List Way) (h : IsRef w nb v ps n) (d : ByteArray) :
    Calls Try.prog 23 #[.pointer (some ⟨nb, 0, none⟩), .int .i64 conn, .int .i64 side, .string d] w fun e w' => e = .returned (.int .i64 (toE n conn side)) ∧ w = w' := by
  have hF := wrong_any w nb n v ps h conn side
  clear h
  have hb' : (toE n conn side != 0) = true := by simp [hb]
  generalize toE n conn side = z at hb hb' hF ⊢
  go_enter Try.func23, Try.ntmps23
  go_wp2_with (go_at_call 29; refine hF.mono ?_; rintro e w1 ⟨rfl, rfl⟩)
  go_ret
  exact ⟨rfl, rfl⟩

theorem rarrive_bad (ps : List Way) (h : IsRef w nb v ps n) (m : Int) :
    Calls Try.prog 24 #[.pointer (some ⟨nb, 0, none⟩), .int .i64 conn, .int .i64 side, .int .i64 m] w fun e w' => e = .returned (.tuple #[.int .i64 0, .int .i64 (toE n conn side)]) ∧ w = w' := by
  have hF := wrong_any w nb n v ps h conn side
  clear h
  have hb' : (toE n conn side != 0) = true := by simp [hb]
  generalize toE n conn side = z at hb hb' hF ⊢
  go_enter Try.func24, Try.ntmps24
  go_wp2_with (go_at_call 29; refine hF.mono ?_; rintro e w1 ⟨rfl, rfl⟩)
  go_ret2
  exact ⟨rfl, rfl⟩

theorem rread_bad (ps : List Way) (h : IsRef w nb v ps n) (m : Int) :
    Calls Try.prog 25 #[.pointer (some ⟨nb, 0, none⟩), .int .i64 conn, .int .i64 side, .int .i64 m] w fun e w' => e = .returned (.tuple #[.string ⟨#[]⟩, .int .i64 (toE n conn side)]) ∧ w = w' := by
  have hF := wrong_any w nb n v ps h conn side
  clear h
  have hb' : (toE n conn side != 0) = true := by simp [hb]
  generalize toE n conn side = z at hb hb' hF ⊢
  go_enter Try.func25, Try.ntmps25
  go_wp2_with (go_at_call 29; refine hF.mono ?_; rintro e w1 ⟨rfl, rfl⟩)
  go_ret2
  exact ⟨rfl, rfl⟩

theorem rpending_bad (ps : List Way) (h : IsRef w nb v ps n) :
    Calls Try.prog 28 #[.pointer (some ⟨nb, 0, none⟩), .int .i64 conn, .int .i64 side] w fun e w' => e = .returned (.tuple #[.int .i64 0, .int .i64 0, .int .i64 (toE n conn side)]) ∧ w = w' := by
  have hF := wrong_any w nb n v ps h conn side
  clear h
  have hb' : (toE n conn side != 0) = true := by simp [hb]
  generalize toE n conn side = z at hb hb' hF ⊢
  go_enter Try.func28, Try.ntmps28
  go_wp2_with (go_at_call 29; refine hF.mono ?_; rintro e w1 ⟨rfl, rfl⟩)
  go_ret3
  exact ⟨rfl, rfl⟩

theorem rclose_bad (ps : List Way) (h : IsRef w nb v ps n) :
    Calls Try.prog 26 #[.pointer (some ⟨nb, 0, none⟩), .int .i64 conn, .int .i64 side] w fun e w' => e = .returned (.int .i64 (toE n conn side)) ∧ w = w' := by
  have hF := wrong_any w nb n v ps h conn side
  clear h
  have hb' : (toE n conn side != 0) = true := by simp [hb]
  generalize toE n conn side = z at hb hb' hF ⊢
  go_enter Try.func26, Try.ntmps26
  go_wp2_with (go_at_call 29; refine hF.mono ?_; rintro e w1 ⟨rfl, rfl⟩)
  go_ret
  exact ⟨rfl, rfl⟩

theorem rended_bad (ps : List Way) (h : IsRef w nb v ps n) :
    Calls Try.prog 27 #[.pointer (some ⟨nb, 0, none⟩), .int .i64 conn, .int .i64 side] w fun e w' => e = .returned (.tuple #[.bool false, .int .i64 (toE n conn side)]) ∧ w = w' := by
  have hF := wrong_any w nb n v ps h conn side
  clear h
  have hb' : (toE n conn side != 0) = true := by simp [hb]
  generalize toE n conn side = z at hb hb' hF ⊢
  go_enter Try.func27, Try.ntmps27
  go_wp2_with (go_at_call 29; refine hF.mono ?_; rintro e w1 ⟨rfl, rfl⟩)
  go_ret2
  exact ⟨rfl, rfl⟩
end

section
variable (w : World) (nb n : Nat) (v : Value) (i s : Nat) (hi : i < n) (hs : s < 2)
include hi hs

theorem arrive_neg (ps : List Pipe) (h : IsNet w nb v ps n) (m : Int) (hm : m < 0) :
    Calls Try.prog 13 #[.pointer (some ⟨nb, 0, none⟩), .int .i64 i, .int .i64 s, .int .i64 m] w fun e w' => e = .returned (.tuple #[.int .i64 0, .int .i64 1]) ∧ w = w' := by
  have hq : 2 * i + s < ps.length := by have := h.len; omega
  obtain ⟨g, cap, rfl, _, _, _, _, _⟩ := h.pipe hq
  have hF := to_good w nb n g cap ps h i s hi hs
  clear h
  go_enter Try.func13, Try.ntmps13
  go_wp2_with (go_at_call 21; refine hF.mono ?_; rintro e w1 ⟨rfl, rfl⟩)
  go_ret2
  exact ⟨rfl, rfl⟩

theorem read_neg (ps : List Pipe) (h : IsNet w nb v ps n) (m : Int) (hm : m < 0) :
    Calls Try.prog 14 #[.pointer (some ⟨nb, 0, none⟩), .int .i64 i, .int .i64 s, .int .i64 m] w fun e w' => e = .returned (.tuple #[.string ⟨#[]⟩, .int .i64 1]) ∧ w = w' := by
  have hq : 2 * i + s < ps.length := by have := h.len; omega
  obtain ⟨g, cap, rfl, _, _, _, _, _⟩ := h.pipe hq
  have hF := to_good w nb n g cap ps h i s hi hs
  clear h
  go_enter Try.func14, Try.ntmps14
  go_wp2_with (go_at_call 21; refine hF.mono ?_; rintro e w1 ⟨rfl, rfl⟩)
  go_ret2
  exact ⟨rfl, rfl⟩

theorem rarrive_neg (ps : List Way) (h : IsRef w nb v ps n) (m : Int) (hm : m < 0) :
    Calls Try.prog 24 #[.pointer (some ⟨nb, 0, none⟩), .int .i64 i, .int .i64 s, .int .i64 m] w fun e w' => e = .returned (.tuple #[.int .i64 0, .int .i64 1]) ∧ w = w' := by
  have hF := wrong_any w nb n v ps h i s
  rw [toE_good n i s hi hs] at hF
  clear h
  go_enter Try.func24, Try.ntmps24
  go_wp2_with (go_at_call 29; refine hF.mono ?_; rintro e w1 ⟨rfl, rfl⟩)
  go_ret2
  exact ⟨rfl, rfl⟩

theorem rread_neg (ps : List Way) (h : IsRef w nb v ps n) (m : Int) (hm : m < 0) :
    Calls Try.prog 25 #[.pointer (some ⟨nb, 0, none⟩), .int .i64 i, .int .i64 s, .int .i64 m] w fun e w' => e = .returned (.tuple #[.string ⟨#[]⟩, .int .i64 1]) ∧ w = w' := by
  have hF := wrong_any w nb n v ps h i s
  rw [toE_good n i s hi hs] at hF
  clear h
  go_enter Try.func25, Try.ntmps25
  go_wp2_with (go_at_call 29; refine hF.mono ?_; rintro e w1 ⟨rfl, rfl⟩)
  go_ret2
  exact ⟨rfl, rfl⟩
end

end Go.Proofs.Ytnbjbjpfleiogaa
