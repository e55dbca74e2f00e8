/- The reference's All by contract: the node's keys in a row of the call's own; conditions: none. -/
import Derived.Test.YthplnecnagbedaaRnPut
import Derived.Test.YthplnecnagbedaaNdKeys
import Derived.Deep.AppendLies
import Derived.Deep.RegionLaw
namespace Go.Proofs.Ythplnecnagbedaa
open Go.RowKit

set_option maxRecDepth 100000 in
theorem rall_any (w : World) (r kb vb : Nat) (N : Nd) (hok : NdOk N) (hR : RNd w r kb vb N) :
    Calls Try.prog 61 #[.pointer (some ⟨r, 0, none⟩)] w (KeysPost w (keysM N)) := by
  obtain ⟨i0, hi, hz0, hz1, hz2⟩ := info_parts Try.info9
  have HINF := Lib.hid hi
  clear hi
  have hp := fun W => parts_nd W N hok
  have c0 : w.cell? ⟨r, 0, none⟩ = some (.int .u64 N.x) := hR.top.at 0 rfl
  have HR := Lib.hid hR
  have HOK := Lib.hid hok
  have hu15 := hok.u15
  have hkl := keysM_len N
  have HKL := Lib.hid hkl
  clear hR hok hkl
  go_enter Try.func61, Try.ntmps61
  go_upto_region 2 with (go_at_call 56; refine (hp _).mono ?_; rintro e w2 ⟨b, cap, rfl, hc, b2⟩)
  have hR2 := HR.out.next b2
  have HR2 := Lib.hid hR2
  have HC := Lib.hid hc
  have hz2w := b2.size
  clear hR2 hc c0 hp
  go_wp2_with fail
  go_loopg [5, 6] N.u (fun gn v i wr => ∃ (t : Nat) (a : Option Addr) (k : Nat), t ≤ N.u ∧ i = .int .i64 t ∧ gn = N.u - t ∧ v = .slice a t k ∧ wr.ownsRow w2.heap.size 9 1 (.slice a t k) t (((keysM N).take t).map .string) ∧ Below w2.heap.size w2 wr)
  case atStart => exact ⟨0, none, 0, Nat.zero_le _, rfl, rfl, rfl, by simpa using World.ownsRow_nil _ _ _ _, Below.refl _ _⟩
  case round =>
    obtain ⟨t, a, k, ht, rfl, rfl, rfl, hown, hb⟩ := hrel
    have hbz := hb.size
    by_cases htu : t < N.u
    · have hst := slot_lt HOK.out (i := t) (by omega)
      have hRr := HR2.out.next hb
      have hcb := HC.out t (by omega)
      have cs := (hb.cell (p := ⟨b, t, none⟩) (World.block_lt_of_cell? w2 _ hcb)).trans hcb
      have ck := hRr.key HOK.out.kl hst
      have c1 : wr.cell? ⟨r, 1, none⟩ = some (.slice (some ⟨kb, 0, none⟩) 15 15) := hRr.top.at 1 rfl
      have htk := keysM_take (N := N) (i := t) htu
      have HTK := Lib.hid htk
      have HO := Lib.hid hown
      have HB := Lib.hid hb
      clear htk hown hb hRr hcb
      generalize N.K.getD (N.slot t) emp = key at ck HTK
      generalize N.slot t = s at cs ck hst
      have hs2 : (s : Int) < 15 := by omega
      have ht15 : (t : Int) < 15 := by omega
      go_upto_region 6 with fail
      have HO2 : ∀ o, ((wr.alloc o).drew).ownsRow w2.heap.size 9 1 (.slice a t k) t (((keysM N).take t).map .string) := fun o => own_chg HO.out (((Chg.refl [] wr).alloc o).drew) (by simp)
      have HO2 := Lib.hid HO2
      go_region_law (refine step_append_lies _ rfl (.tmp 20) (.tmp 31) 44 rfl w2.heap.size 9 i0 (.string ⟨#[]⟩) 1 16 Try.underlying44 HINF.out hz0 hz1 hz2 rfl (by decide) _ t (((keysM N).take t).map .string) rfl (HO2.out _) ⟨wr.heap.size, 0, none⟩ 1 1 [.string key] rfl rfl (fun j u hu => World.news_of_block (B := wr.heap.size) (t := 9) (fr := (0, 0)) (Blk.new wr 9 #[.string key]).drew j u hu) (by intro u hu; simp at hu; subst hu; rfl) (by decide) (by unfold maxLen; omega) (by omega) (by simp; omega) _ rfl ?_; intro g7 k7 w7 hown7 hgr7 hbl7 hlt7)
      all_goals
        have hown8 : w7.ownsRow w2.heap.size 9 1 (.slice (some ⟨g7, 0, none⟩) (t + 1) k7) (t + 1) (((keysM N).take (t + 1)).map .string) := by
          rw [HTK.out, List.map_append]; exact hown7
        go_wp2_with fail
        go_roundg (N.u - (t + 1))
        case rel => exact ⟨t + 1, some ⟨g7, 0, none⟩, k7, by omega, by go_num, rfl, rfl, hown8, below_grown ((HB.out.alloc hbz _).drew) hgr7 (Nat.le_trans hbz (by simp)) (below_own HO.out)⟩
        case measure => omega
    · obtain rfl : t = N.u := by omega
      rw [List.take_of_length_le (by rw [HKL.out]; omega)] at hown
      clear htu
      go_wp2_with fail
      go_ret
      refine ⟨a, k, by rw [HKL.out]; rfl, ?_, b2.trans (hb.mono b2.size)⟩
      unfold OwnS
      rw [HKL.out]
      exact own_mono hown b2.size

end Go.Proofs.Ythplnecnagbedaa
