/- The walk of the law NodeCounts: as long as the counts are as they were, so are the keys; conditions: as what came in reads. -/
import Derived.Test.YthplnecnagbedaaNdKit
import Derived.Test.YthplnecnagbedaaNtWorks
namespace Go.Proofs.Ythplnecnagbedaa
open Go.RowKit

theorem putM_spl (N : Nd) (k : ByteArray) (v : Int) : (putM N k v).1.spl = N.spl := by
  unfold putM
  split
  · rfl
  · split
    · rfl
    · split <;> rfl
theorem keysM_bound {N : Nd} (h : NdOk N) : (keysM N).length ≤ 15 := by rw [keysM_len]; exact h.u15

set_option maxRecDepth 100000 in
set_option maxHeartbeats 4000000 in
theorem nodeCounts_any (w : World) (aa : Option Addr) (an ac : Nat) (A : List ActN) (hA : A.length = an) (hla : an ≤ 9223372036854775807) (hrd : RdA w w.heap.size aa A) :
    Calls Try.prog 7 #[.slice aa an ac] w fun e w' => e = .returned (.bool true) ∧ Below w.heap.size w w' := by
  have HA := Lib.hid hA
  have HRD := Lib.hid hrd
  clear hA hrd
  go_enter Try.func7, Try.ntmps7
  go_upto_region 2 with (go_at_call 24; refine (new_any _).mono ?_; rintro e w1 ⟨rfl, hN1, b1, hlt1⟩)
  obtain ⟨g, hg⟩ : ∃ g, w1.heap.size - 1 = g := ⟨_, rfl⟩
  rw [hg] at hN1
  rw [hg]
  have hgw : w.heap.size ≤ g := by omega
  clear hg hlt1
  obtain ⟨N0, hN0, hok0, hi0, hs0⟩ : ∃ N, N = nd0 ∧ NdOk N ∧ N.ins = 0 ∧ N.spl = 0 := ⟨nd0, rfl, nd0_ok, rfl, rfl⟩
  rw [← hN0] at hN1
  have HI0 := Lib.hid hi0
  have HS0 := Lib.hid hs0
  clear hN0 hi0 hs0
  go_upto_region 6 with (first
    | (go_at_call 29; refine (keys_any _ g N0 hok0 hN3).mono ?_; rintro e w4 ⟨a4, k4, rfl, hO4, b4⟩)
    | (go_at_call 33; refine (counts_any _ g N0 hok0.kl hok0.vl hN2).mono ?_; rintro e w3 ⟨rfl, q, rfl⟩; have hN3 := hN2.drewN q)
    | (go_at_call 23; refine (nodeWorks_any _).mono ?_; rintro e w2 ⟨rfl, b2⟩; have hN2 := hN1.below b2 hN1.lt))
  have hB3 : Below w.heap.size w (w2.drewN q) := below_drewN (b1.trans (b2.mono b1.size)) q
  have hB4 : Below w.heap.size w w4 := hB3.trans (b4.mono hB3.size)
  have hN4 := hN3.below b4 hN3.lt
  have hO4' : OwnS w.heap.size w4 a4 k4 (keysM N0) := own_mono hO4 hB3.size
  have HB4 := Lib.hid hB4
  have HN4 := Lib.hid hN4
  have HO4 := Lib.hid hO4'
  have HOK := Lib.hid hok0
  clear hB3 hB4 hN4 hO4' hO4 hN3 hN2 hN1 b1 b2 b4 hok0
  go_wp2_with fail
  go_loopg [4, 5, 6, 7] an (fun gn vi vs vk i wr => ∃ (t : Nat) (N : Nd) (a : Option Addr) (k : Nat), t ≤ an ∧ t ≤ 200 ∧ i = .int .i64 t ∧ gn = an - t ∧ vi = .int .i64 N.ins ∧ vs = .int .i64 N.spl ∧ vk = .slice a (keysM N).length k ∧
    NdOk N ∧ N.ins ≤ 20 * t ∧ N.spl ≤ t ∧ Blk wr g 95 (ndCells N) ∧ OwnS w.heap.size wr a k (keysM N) ∧ Below w.heap.size w wr)
  case atStart => exact ⟨0, N0, a4, k4, Nat.zero_le _, Nat.zero_le _, rfl, rfl, rfl, rfl, rfl, HOK.out, by rw [HI0.out]; exact Nat.le_refl _, by rw [HS0.out]; exact Nat.le_refl _, HN4.out, HO4.out, HB4.out⟩
  case round =>
    clear HI0 HS0 HB4 HN4 HO4 HOK
    obtain ⟨t, N, a, k, hta, ht2, rfl, rfl, rfl, rfl, rfl, hok, hins, hspl, hN, hO, hB⟩ := hrel
    have hgl := hN.lt
    have hbz := hB.size
    by_cases hgo : t < an ∧ t < 200
    · obtain ⟨h1, h2⟩ := hgo
      obtain ⟨ba, oa, e1, hba, c0, c1, c2⟩ := HRD.out t (by rw [HA.out]; exact h1)
      subst e1
      have c0 := (hB.cell (p := ⟨ba, _, none⟩) hba).trans c0
      have c1 := (hB.cell (p := ⟨ba, _, none⟩) hba).trans c1
      have c2 := (hB.cell (p := ⟨ba, _, none⟩) hba).trans c2
      generalize A.getD t actN0 = x at c0 c1 c2
      obtain ⟨xk, key, val⟩ := x
      dsimp only at c0 c1 c2
      have ham := fun W => among_any xk 4 W (by omega) (by omega)
      have hr4 : xk % 4 = 0 ∨ xk % 4 = 1 ∨ xk % 4 = 2 ∨ xk % 4 = 3 := by omega
      generalize xk % 4 = r at ham hr4
      obtain ⟨W0, hW0⟩ : ∃ W0, W0 = wr.alloc (.cells #[.int .i64 xk, .string key, .int .i64 val] 36) := ⟨_, rfl⟩
      have hN0 : Blk W0 g 95 (ndCells N) := by rw [hW0]; exact hN.alloc _
      have hO0 : OwnS w.heap.size W0 a k (keysM N) := by rw [hW0]; exact own_chg hO ((Chg.refl [] wr).alloc _) (by simp)
      have hB0 : Below w.heap.size w W0 := by rw [hW0]; exact hB.alloc hbz _
      have hbx : Blk W0 wr.heap.size 36 #[.int .i64 xk, .string key, .int .i64 val] := by rw [hW0]; exact Blk.new _ _ _
      have HW0 := Lib.hid hW0
      have hput := put_any W0 g N hok (by omega) hN0 key val
      have htake := take_any W0 g N hok (by omega) hN0 key
      have hspl2 := split_any W0 g N hok (by omega) (by omega) hN0
      have hpok := putM_ok hok key val
      have htok := takeM_ok hok key
      have hpt := told_put hok key val
      have htt := told_take hok key
      have hpi := putM_ins N key val
      have hti := takeM_ins N key
      have hps := putM_spl N key val
      have hts := takeM_spl N key
      have hso := splitN_ok hok
      have hst := told_split hok
      have hsi := splitN_ins N
      have hss := splitN_spl N
      have hput : Calls Try.prog 26 #[.pointer (some ⟨g, 0, none⟩), .string key, .int .i64 val] W0 fun e w' => (∃ v1 v2 v3, e = .returned (.tuple #[v1, v2, v3])) ∧ ∃ N', NdOk N' ∧ Told N N' ∧ N'.ins ≤ N.ins + 15 ∧ N'.spl ≤ N.spl + 1 ∧ Blk w' g 95 (ndCells N') ∧ Chg [g] W0 w' :=
        hput.mono fun e w' ⟨h1, h2, h3⟩ => ⟨⟨_, _, _, h1⟩, _, hpok, hpt, by omega, by omega, h2, h3⟩
      have htake : Calls Try.prog 28 #[.pointer (some ⟨g, 0, none⟩), .string key] W0 fun e w' => (∃ v1 v2, e = .returned (.tuple #[v1, v2])) ∧ ∃ N', NdOk N' ∧ Told N N' ∧ N'.ins ≤ N.ins + 15 ∧ N'.spl ≤ N.spl + 1 ∧ Blk w' g 95 (ndCells N') ∧ Chg [g] W0 w' :=
        htake.mono fun e w' ⟨h1, h2, h3⟩ => ⟨⟨_, _, h1⟩, _, htok, htt, by omega, by omega, h2, h3⟩
      have hsplit : Calls Try.prog 31 #[.pointer (some ⟨g, 0, none⟩)] W0 fun e w' => (∃ v1 v2 v3, e = .returned (.tuple #[v1, v2, v3])) ∧ ∃ N', NdOk N' ∧ Told N N' ∧ N'.ins ≤ N.ins + 15 ∧ N'.spl ≤ N.spl + 1 ∧ Blk w' g 95 (ndCells N') ∧ Chg [g] W0 w' :=
        hspl2.mono fun e w' h => by
          obtain ⟨v1, v2, v3, h1, h2, h3⟩ := split_keep hN0 hN0.lt h
          exact ⟨⟨_, _, _, h1⟩, _, hso, hst, hsi, hss, h2, h3⟩
      clear hspl2 hpok htok hpt htt hpi hti hps hts hso hst hsi hss
      have hO0r := hO0.rd
      have hkb := keysM_bound hok
      have HN0 := Lib.hid hN0
      have HO0 := Lib.hid hO0
      have HB0 := Lib.hid hB0
      rw [hW0] at hput htake hsplit
      clear hW0 hN0 hO0 hB0 hN hO hB
      rcases hr4 with rfl | rfl | rfl | rfl
      all_goals
        go_upto_region 17 with (first
          | (go_at_call 26; refine hput.mono ?_; rintro e w5 ⟨⟨v1, v2, v3, rfl⟩, N', hok', hT, hi', hs', hN', hc⟩)
          | (go_at_call 28; refine htake.mono ?_; rintro e w5 ⟨⟨v1, v2, rfl⟩, N', hok', hT, hi', hs', hN', hc⟩)
          | (go_at_call 31; refine hsplit.mono ?_; rintro e w5 ⟨⟨v1, v2, v3, rfl⟩, N', hok', hT, hi', hs', hN', hc⟩)
          | (go_at_call 25; refine (ham _).mono ?_; rintro e w3 ⟨rfl, rfl⟩))
        rw [← HW0.out] at hc
        have hO5 := HO0.out.chg HN0.out (by decide) hc
        have hB5 : Below w.heap.size w w5 := below_chg HB0.out hc HB0.out.size (by simp; omega)
        obtain ⟨t1, t2, t3⟩ := hT
        have hgl5 := hN'.lt
        have hkb' := keysM_bound hok'
        have HO5 := Lib.hid hO5
        have HB5 := Lib.hid hB5
        have hn1 : ¬ ((N'.ins : Int) < (N.ins : Int)) := by omega
        have hn2 : ¬ ((N'.spl : Int) < (N.spl : Int)) := by omega
        clear hO5 hB5 hc hput htake hsplit hO0r
        go_upto_region 19 with (first
          | (go_at_call 29; refine (keys_any _ g N' hok' hN6).mono ?_; rintro e w7 ⟨a7, k7, rfl, hO7, b7⟩)
          | (go_at_call 33; refine (counts_any _ g N' hok'.kl hok'.vl hN').mono ?_; rintro e w6 ⟨rfl, q6, rfl⟩; have hN6 := hN'.drewN q6))
        have hO6 : OwnS w.heap.size (w5.drewN q6) a k (keysM N) := own_chg HO5.out ((Chg.refl [] w5).drewN q6) (by simp)
        have hO76 := hO6.below b7
        have hB6 : Below w.heap.size w (w5.drewN q6) := below_drewN HB5.out q6
        have hB7 : Below w.heap.size w w7 := hB6.trans (b7.mono hB6.size)
        have hN7 := hN6.below b7 hN6.lt
        have hO7w : OwnS w.heap.size w7 a7 k7 (keysM N') := own_mono hO7 hB6.size
        have hst := sameTexts_any w7 a7 a (keysM N').length (keysM N).length k7 k (keysM N') (keysM N) rfl rfl ⟨by omega, by omega⟩ hO7.rd hO76.rd
        have HN7 := Lib.hid hN7
        have HB7 := Lib.hid hB7
        have HO7 := Lib.hid hO7w
        have HT3 := Lib.hid t3
        clear hN6 hN' hN7 hB7 hO7w hO7 hO76 hO6 hB6 b7
        by_cases hkeys : keysM N' = keysM N
        · obtain ⟨e1, e2⟩ := t3.2 hkeys
          rw [decide_eq_true hkeys] at hst
          have d1 : ((N'.ins : Int) == (N.ins : Int)) = true := by rw [e1]; simp
          have d2 : ((N'.spl : Int) == (N.spl : Int)) = true := by rw [e2]; simp
          clear e1 e2 t3 hkeys
          go_wp2_with (go_at_call 32; refine hst.mono ?_; rintro e w8 ⟨rfl, q8, rfl⟩)
          go_roundg (an - (t + 1))
          case rel => exact ⟨t + 1, N', a7, k7, by omega, by omega, by go_num, rfl, rfl, rfl, rfl, hok', by omega, by omega, HN7.out.drewN q8, own_chg HO7.out ((Chg.refl [] w7).drewN q8) (by simp), below_drewN HB7.out q8⟩
          case measure => omega
        · rw [decide_eq_false hkeys] at hst
          have hne : ¬ (N'.ins = N.ins ∧ N'.spl = N.spl) := fun h => hkeys (t3.1 h)
          by_cases hi1 : N'.ins = N.ins
          · have hs1 : N'.spl ≠ N.spl := fun h => hne ⟨hi1, h⟩
            have d1 : ((N'.ins : Int) == (N.ins : Int)) = true := by rw [hi1]; simp
            have d2 : ((N'.spl : Int) == (N.spl : Int)) = false := by simp only [beq_eq_false_iff_ne]; omega
            clear t3 hkeys hne hi1 hs1
            go_wp2_with (go_at_call 32; refine hst.mono ?_; rintro e w8 ⟨rfl, q8, rfl⟩)
            go_roundg (an - (t + 1))
            case rel => exact ⟨t + 1, N', a7, k7, by omega, by omega, by go_num, rfl, rfl, rfl, rfl, hok', by omega, by omega, HN7.out.drewN q8, own_chg HO7.out ((Chg.refl [] w7).drewN q8) (by simp), below_drewN HB7.out q8⟩
            case measure => omega
          · have d1 : ((N'.ins : Int) == (N.ins : Int)) = false := by simp only [beq_eq_false_iff_ne]; omega
            clear t3 hkeys hne hi1
            go_wp2_with (go_at_call 32; refine hst.mono ?_; rintro e w8 ⟨rfl, q8, rfl⟩)
            go_roundg (an - (t + 1))
            case rel => exact ⟨t + 1, N', a7, k7, by omega, by omega, by go_num, rfl, rfl, rfl, rfl, hok', by omega, by omega, HN7.out.drewN q8, own_chg HO7.out ((Chg.refl [] w7).drewN q8) (by simp), below_drewN HB7.out q8⟩
            case measure => omega
    · have hcase : (((t : Int) < (an : Int)) ∧ ¬ ((t : Int) < 200)) ∨ ¬ ((t : Int) < (an : Int)) := by omega
      have HBF := Lib.hid hB
      clear hN hO hB hok
      rcases hcase with ⟨hc1, hc2⟩ | hc1
      all_goals
        go_wp2_with fail
        go_ret
        exact ⟨rfl, HBF.out⟩

end Go.Proofs.Ythplnecnagbedaa
