/- Keys of a node by its contract: its keys in order, in a row of the call's own; conditions: the node is one, and lies in memory. -/
import Derived.Test.YthplnecnagbedaaNdTake
import Derived.Test.YthplnecnagbedaaAppends
namespace Go.Proofs.Ythplnecnagbedaa
open Go.RowKit

theorem Try.info9 : (Try.prog.info? 9).map (fun i => (i.zero, i.size, i.bytes)) = some (some (.string ⟨#[]⟩), 1, 16) := by kernel_rfl
/-- Texts of the call's own. -/
def OwnS (B : Nat) (w : World) (a : Option Addr) (k : Nat) (L : List ByteArray) : Prop := w.ownsRow B 9 1 (.slice a L.length k) L.length (L.map .string)
theorem keysM_take {N : Nd} {i : Nat} (h : i < N.u) : (keysM N).take (i + 1) = (keysM N).take i ++ [N.K.getD (N.slot i) emp] := by
  have hl : i < (keysM N).length := by rw [keysM_len]; exact h
  rw [List.take_succ_eq_append_getElem hl]
  congr 2
  have h2 : i < N.ents.length := by rw [ents_len]; exact h
  have he := ents_at N h
  have e2 : N.ents.getD i (emp, 0) = N.ents[i] := by simp [List.getD, h2]
  rw [e2] at he
  simp only [keysM, List.getElem_map, he]
  rfl
theorem strs_one (L : List ByteArray) : ∀ u ∈ L.map Value.string, u.oneCell' = true := by
  intro u hu
  obtain ⟨x, _, rfl⟩ := List.mem_map.1 hu
  rfl

def KeysPost (w : World) (L : List ByteArray) (e : Ending) (w' : World) : Prop := ∃ (a : Option Addr) (k : Nat), e = .returned (.slice a L.length k) ∧ OwnS w.heap.size w' a k L ∧ Below w.heap.size w w'
set_option maxRecDepth 100000 in
theorem keys_any (w : World) (g : Nat) (N : Nd) (hok : NdOk N) (hN : Blk w g 95 (ndCells N)) :
    Calls Try.prog 29 #[.pointer (some ⟨g, 0, none⟩)] w (KeysPost w (keysM N)) := by
  obtain ⟨i0, hi, hz0, hz1, hz2⟩ := info_parts Try.info9
  have HI := Lib.hid hi
  clear hi
  have hA := fun W => apartL W N.x hok.lt
  have hu15 := hok.u15
  have c0 : w.cell? ⟨g, 0, none⟩ = some (.int .u64 N.x) := hN.at 0 nd_at0
  have hgl := hN.lt
  have hone := pv_one (N.x % 16 :: slotsL N.x)
  have hsz : (pv (N.x % 16 :: slotsL N.x)).size = 16 := by rw [pv_size, List.length_cons, slots_len]
  have hr := row87
  rw [← hsz] at hr
  have HSZ := Lib.hid hsz
  have HN := Lib.hid hN
  have HOK := Lib.hid hok
  have hkl := keysM_len N
  have HKL := Lib.hid hkl
  clear hN hok hsz hkl
  obtain ⟨u, hu⟩ : ∃ u, u = N.u := ⟨_, rfl⟩
  rw [← hu] at hu15
  have HU := Lib.hid hu
  clear hu
  go_enter Try.func29, Try.ntmps29
  go_upto_region 3 with (first
    | (go_at_call 53; refine (hA _).mono ?_; rintro e w2 ⟨rfl, b2⟩)
    | (refine wpList_store_blk rfl 87 _ _ rfl w2.heap.size (pv (N.x % 16 :: slotsL N.x)) rfl rfl (Blk.new w2 87 _) hr (by rw [HSZ.out]; rfl) hone ?_))
  have hPI := partsIn (x := N.x) b2 #[Value.int .i64 0, Value.int .i64 0, Value.int .i64 0, Value.int .i64 0, Value.int .i64 0, Value.int .i64 0, Value.int .i64 0, Value.int .i64 0, Value.int .i64 0, Value.int .i64 0, Value.int .i64 0, Value.int .i64 0, Value.int .i64 0, Value.int .i64 0, Value.int .i64 0, Value.int .i64 0]
  generalize hW : (w2.alloc (Obj.cells #[Value.int .i64 0, Value.int .i64 0, Value.int .i64 0, Value.int .i64 0, Value.int .i64 0, Value.int .i64 0, Value.int .i64 0, Value.int .i64 0, Value.int .i64 0, Value.int .i64 0, Value.int .i64 0, Value.int .i64 0, Value.int .i64 0, Value.int .i64 0, Value.int .i64 0, Value.int .i64 0] 87)).setRow w2.heap.size (pv (N.x % 16 :: slotsL N.x)) = w3 at hPI ⊢
  clear hW b2
  generalize w2.heap.size = pb at hPI ⊢
  have p0 : w3.cell? ⟨pb, 0, none⟩ = some (.int .i64 (u : Nat)) := by rw [HU.out]; exact hPI.blk.at 0 (pv_get (x := N.u) rfl)
  have hsl85 := fun W => slice85h W pb u hu15
  have HPI := Lib.hid hPI
  clear hA c0 hPI
  go_wp2_with fail
  clear p0 hsl85
  go_loopg [4, 17] u (fun gn v i wr => ∃ (t : Nat) (a : Option Addr) (k : Nat), t ≤ u ∧ i = .int .i64 t ∧ gn = u - t ∧ v = .slice a t k ∧ wr.ownsRow w3.heap.size 9 1 (.slice a t k) t (((keysM N).take t).map .string) ∧ Below w3.heap.size w3 wr)
  case atStart => exact ⟨0, none, 0, Nat.zero_le _, rfl, rfl, rfl, by simpa using World.ownsRow_nil _ _ _ _, Below.refl _ _⟩
  case round =>
    obtain ⟨t, a, k, ht, rfl, rfl, rfl, hown, hb⟩ := hrel
    have hbz := hb.size
    by_cases htu : t < u
    · have hst := slot_lt HOK.out (i := t) (by omega)
      have cs := (hb.cell (p := ⟨pb, 1 + t, none⟩) HPI.out.blk.lt).trans (HPI.out.blk.at (1 + t) (slot_pv HOK.out (by omega)))
      have ck := (hb.cell (p := ⟨g, 1 + N.slot t, none⟩) (Nat.lt_of_lt_of_le hgl HPI.out.below.size)).trans ((HPI.out.below.cell (p := ⟨g, 1 + N.slot t, none⟩) hgl).trans (HN.out.at _ (nd_atK HOK.out.kl hst)))
      have htk := keysM_take (N := N) (i := t) (by rw [← HU.out]; exact htu)
      have HTK := Lib.hid htk
      have HO := Lib.hid hown
      have HB := Lib.hid hb
      clear htk hown hb
      generalize N.K.getD (N.slot t) emp = key at ck HTK
      generalize N.slot t = s at cs ck hst
      have hs2 : (s : Int) < 15 := by omega
      go_wp2_with (at_builtin; refine wpList_append_to rfl (.tmp 21) (.tmp 28) 44 rfl w3.heap.size 9 i0 (.string ⟨#[]⟩) 1 16 Try.underlying44 HI.out hz0 hz1 hz2 rfl (by decide) _ t _ rfl (HO.out.alloc _) (some ⟨wr.heap.size, 0, none⟩) 1 1 [.string key] rfl rfl (news_blk (Blk.new _ 9 _)) (by intro u hu; simp at hu; subst hu; rfl) (t + 1) rfl (((keysM N).take (t + 1)).map .string) (by rw [HTK.out]; simp) (by unfold maxLen; omega) (by omega) (Nat.le_trans hbz (by simp)) ?_; intro a7 k7 w7 hown7 hgr7)
      go_roundg (u - (t + 1))
      case rel => exact ⟨t + 1, a7, k7, by omega, by go_num, rfl, rfl, hown7, below_grown (HB.out.alloc hbz _) hgr7 (Nat.le_trans hbz (by simp)) (below_own HO.out)⟩
      case measure => omega
    · obtain rfl : t = u := by omega
      have hl : (keysM N).length = t := by rw [HKL.out, ← HU.out]
      rw [List.take_of_length_le (by omega)] at hown
      have HL := Lib.hid hl
      clear hl htu
      go_wp2_with fail
      go_ret
      refine ⟨a, k, by rw [HL.out]; rfl, ?_, HPI.out.below.trans (hb.mono HPI.out.below.size)⟩
      unfold OwnS
      rw [HL.out]
      exact own_mono hown HPI.out.below.size

end Go.Proofs.Ythplnecnagbedaa
