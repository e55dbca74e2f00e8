/- The walk of the law NodeHalves: a node is filled, split, and its halves hold what it held; conditions: as what came in reads. -/
import Derived.Test.YthplnecnagbedaaNdStr
import Derived.Test.YthplnecnagbedaaNtWorks
import Derived.Deep.DeepCutAuto
import Derived.Deep.CutBlock
import Derived.StillTailTactics
import Derived.IntWalk
namespace Go.Proofs.Ythplnecnagbedaa
open Go.RowKit Go.Maps Go.WideMaps

theorem chg_mapH {w w' : World} {b : Nat} (hg : w.grownBy w' (some b)) : Chg [b] w w' := Chg.of_grown hg (fun g hg => by injection hg with hg; subst hg; exact .inl (by simp))
theorem putM_splH (N : Nd) (k : ByteArray) (v : Int) : (putM N k v).1.spl = N.spl := by
  unfold putM
  split
  · rfl
  · split
    · rfl
    · split <;> rfl
theorem keysH {N : Nd} (h : NdOk N) : (keysM N).length ≤ 15 := by rw [keysM_len]; exact h.u15

theorem wpList_unguard {P : Program} {ops : Array Oper} {Q : Exit → Act → World → Prop} {a : Act} {w : World} {rest : List Oper} {o : Oper} (hw : Region.wanted o (yielded ops a.tmps) = true)
    (h : wpList P ops Q ({ o with guard := none } :: rest) a w) : wpList P ops Q (o :: rest) a w := by
  unfold wpList at h ⊢
  rw [if_pos (by simp [Region.wanted])] at h
  rw [if_pos hw]
  exact h
theorem own_rdS {B : Nat} {w : World} {a : Option Addr} {n k : Nat} {L : List ByteArray} (h : w.ownsRow B 9 1 (.slice a n k) n (L.map .string)) (hn : L.length = n) : RdS w w.heap.size a L := by
  subst hn
  exact OwnS.rd h

set_option maxRecDepth 100000 in
set_option maxHeartbeats 1000000 in
theorem nodeHalves_any (w : World) (aa : Option Addr) (an ac : Nat) (A : List ByteArray) (hA : A.length = an) (_hla : an ≤ 9223372036854775807) (hrd : RdS w w.heap.size aa A) (add : Int) (_hadd : (Lit.int .i64 add).wf = true) :
    Calls Try.prog 6 #[.slice aa an ac, .int .i64 add] w fun e w' => e = .returned (.bool true) ∧ Below w.heap.size w w' := by
  have HA := Lib.hid hA
  have HRD := Lib.hid hrd
  clear hA hrd
  obtain ⟨i0, hi, hz0, hz1, hz2⟩ := info_parts Try.info9
  have HINF := Lib.hid hi
  clear hi
  have hmm := @run_makeMap Try.prog
  have hbs := build0
  have ham : ∀ W, Calls Try.prog 25 #[.int .i64 add, .int .i64 1000] W fun e w' => e = .returned (.int .i64 (add % 1000)) ∧ w' = W := fun W => (among_any add 1000 W (by omega) (by omega)).mono fun e w' ⟨h1, h2⟩ => ⟨h1, h2.symm⟩
  have hm0 : 0 ≤ add % 1000 ∧ add % 1000 < 1000 := by omega
  generalize add % 1000 = m at ham hm0
  obtain ⟨hm0, hm1⟩ := hm0
  go_enter Try.func6, Try.ntmps6
  go_upto_region 2 with (go_at_call 24; refine (new_any _).mono ?_; rintro e w1 ⟨rfl, hN1, b1, hlt1⟩)
  obtain ⟨g, hg⟩ : ∃ g, w1.heap.size - 1 = g := ⟨_, rfl⟩
  rw [hg] at hN1
  rw [hg]
  have hgw : w.heap.size ≤ g := by omega
  clear hg hlt1
  obtain ⟨N0, hN0, hok0, hi0, hs0, he0⟩ : ∃ N, N = nd0 ∧ NdOk N ∧ N.ins = 0 ∧ N.spl = 0 ∧ N.ents = [] := ⟨nd0, rfl, nd0_ok, rfl, rfl, nd0_ents⟩
  rw [← hN0] at hN1
  have HI0 := Lib.hid hi0
  have HS0 := Lib.hid hs0
  have hW0 : WfE N0.ents := by rw [he0]; intro e he; cases he
  clear hN0 hi0 hs0 he0
  go_wp2_with (go_at_call 23; refine (nodeWorks_any _).mono ?_; rintro e w2 ⟨rfl, b2⟩; have hN2 := hN1.below b2 hN1.lt)
  have hB2 : Below w.heap.size w w2 := b1.trans (b2.mono b1.size)
  have HB2 := Lib.hid hB2
  have HN2 := Lib.hid hN2
  have HOK := Lib.hid hok0
  clear hB2 hN2 hN1 b1 b2 hok0
  go_loopg [6] an (fun gn i wr => ∃ (t : Nat) (N : Nd), t ≤ an ∧ t ≤ 40 ∧ i = .int .i64 t ∧ gn = an - t ∧ NdOk N ∧ N.ins ≤ t ∧ N.spl = 0 ∧ WfE N.ents ∧ Blk wr g 95 (ndCells N) ∧ Below w.heap.size w wr)
  case atStart => exact ⟨0, N0, Nat.zero_le _, Nat.zero_le _, rfl, rfl, HOK.out, by rw [HI0.out]; exact Nat.le_refl _, HS0.out, hW0, HN2.out, HB2.out⟩
  case round =>
    clear HI0 HS0 HB2 HN2 HOK hW0
    obtain ⟨t, N, hta, ht2, rfl, rfl, hok, hins, hspl, hwf, hN, hB⟩ := hrel
    have hgl := hN.lt
    have hbz := hB.size
    by_cases hgo : t < an ∧ t < 40
    · obtain ⟨h1, h2⟩ := hgo
      obtain ⟨ba, oa, e1, hba, c0⟩ := HRD.out t (by rw [HA.out]; exact h1)
      subst e1
      have c0 := (hB.cell (p := ⟨ba, _, none⟩) hba).trans c0
      generalize A.getD t emp = key at c0
      have hwr : IntKind.i64.wrap ((t : Int) + m) = (t : Int) + m := IntWalk.i64_in _ (by omega)
      have hput := put_any wr.drew g N hok (by omega) (hN.drewN 1) key ((t : Int) + m)
      have hpok := putM_ok hok key ((t : Int) + m)
      have hpi := putM_ins N key ((t : Int) + m)
      have hps := putM_splH N key ((t : Int) + m)
      rw [hspl] at hps
      have hpw := wfE_put hok hwf key (v := (t : Int) + m) (WalkArith.wf_i64 (by omega))
      unfold PutPost at hput
      generalize putM N key ((t : Int) + m) = R at hput hpok hpi hps hpw
      obtain ⟨N', o1, o2, o3⟩ := R
      dsimp only at hput hpok hpi hps hpw
      have HPOK := Lib.hid hpok
      have HPW := Lib.hid hpw
      have HPS := Lib.hid hps
      have HB := Lib.hid hB
      clear hpok hpw hps hspl hN hB hok hwf
      go_upto_region 7 with fail
      refine wp_region_still_tail 9 (by kernel_rfl) (by kernel_rfl) ?_
      simp only [List.take_succ_cons, List.take_zero, List.drop_succ_cons, List.drop_zero]
      change wpStill _ _ (World.drew _) _ _ _
      repeat still_step
      still_call (ham _)
      repeat still_step
      refine wpStill_nil ?_
      change wpList _ _ _ _ _ (World.drew _)
      go_wp2_with (go_at_call 26; refine hput.mono ?_; rintro e w5 ⟨rfl, hN5, hc5⟩)
      have hB5 := below_chg (below_drewN HB.out 1) hc5 hbz (by simp; omega)
      go_roundg (an - (t + 1))
      case rel => exact ⟨t + 1, N', by omega, by omega, by go_num, rfl, HPOK.out, by omega, HPS.out, HPW.out, hN5, hB5⟩
      case measure => omega
    · have hcase : (((t : Int) < (an : Int)) ∧ ¬ ((t : Int) < 40)) ∨ ¬ ((t : Int) < (an : Int)) := by omega
      clear ham hm0 hm1
      have hlen := keysH hok
      have HKE := Lib.hid (show (keysM N).length = N.ents.length by rw [keysM_len, ents_len])
      have HOK := Lib.hid hok
      have HWF := Lib.hid hwf
      have HSPL := Lib.hid hspl
      have HN := Lib.hid hN
      have HB := Lib.hid hB
      clear hok hwf hN hB hspl
      rcases hcase with ⟨hc1, hc2⟩ | hc1
      all_goals
        go_upto_region 9 with (go_at_call 29; refine (keys_any _ g N HOK.out HN.out).mono ?_; rintro e w6 ⟨a6, k6, rfl, hO6, b6⟩)
        have hN6 := HN.out.below b6 HN.out.lt
        have hB6 := HB.out.trans (b6.mono hbz)
        have hO6' := own_mono hO6 hbz
        have hgl6 := hN6.lt
        have hbz6 := hB6.size
        have hI7 : MapIs (w6.alloc (.map #[] 0)) w6.heap.size 0 (.map []) := World.ownsMap_made (H := Unit) w6 Try.prog 9 (plainElem Try.prog 3)
        have hN7 := hN6.alloc (.map #[] 0)
        have hB7 := hB6.alloc hbz6 (.map #[] 0)
        have hO7 := own_chg hO6' ((Chg.refl [] w6).alloc (.map #[] 0)) (by simp)
        have HN7 := Lib.hid hN7
        have HB7 := Lib.hid hB7
        have HO7 := Lib.hid hO7
        have HI7 := Lib.hid hI7
        clear hN6 hB6 hO6' hO6 b6 hN7 hB7 hO7 hI7
        go_wp2_with fail
        generalize w6.heap.size = be at *
        clear hmm
        have hbeg : g < be := hgl6
        clear hbz hgl hbz6 hgl6
        go_loopg [56] (keysM N).length (fun gn iv wx => ∃ (j nn : Nat) (D : DataW Unit), j ≤ (keysM N).length ∧ iv = .int .i64 j ∧ gn = (keysM N).length - j ∧ nn ≤ j ∧ MapV D N.ents j ∧ Blk wx g 95 (ndCells N) ∧ MapIs wx be nn D ∧ OwnS w.heap.size wx a6 k6 (keysM N) ∧ Below w.heap.size w wx)
        case atStart => exact ⟨0, 0, _, Nat.zero_le _, rfl, rfl, Nat.le_refl _, mapV_nil _, HN7.out, HI7.out, HO7.out, HB7.out⟩
        case round =>
          clear HN7 HB7 HO7 HI7
          obtain ⟨j, nn, D, hj, rfl, rfl, hnn, hM, hN, hI, hO, hB⟩ := hrel
          have hbz := hB.size
          have hgx := hN.lt
          have hix := map_lt hI
          by_cases hjl : j < (keysM N).length
          · obtain ⟨b, oo, e1, hb, c⟩ := hO.rd j hjl
            have hje : j < N.ents.length := by rw [← HKE.out]; exact hjl
            rw [keys_at N hje] at c
            have hg1 := getM_at HOK.out hje
            have hget := get_any wr g N HOK.out hN (N.ents[j]).1
            rw [hg1] at hget
            have hM' := hM.put HOK.out.sorted hje
            have hv := HWF.out _ (List.getElem_mem hje)
            have hkz := HOK.out.big _ (List.getElem_mem hje)
            have hkey : keyOf Try.prog 9 (.string (N.ents[j]).1) = some (litK (N.ents[j]).1) := keyOf_string_mk Try.underlying9 (by unfold maxLen; omega)
            have hne : ∀ q, (Value.slice a6 (keysM N).length k6).ownBlock = some q → q ≠ be := fun q hq e => map_own hI hO (by rw [hq, e])
            have HM' := Lib.hid hM'
            clear hg1 hM' hM hkz
            generalize N.ents[j] = x at *
            obtain ⟨key, v⟩ := x
            dsimp only at c hget hv hkey HM'
            have HKEY := Lib.hid hkey
            have HV := Lib.hid hv
            have HNE := Lib.hid hne
            have HO := Lib.hid hO
            have HB := Lib.hid hB
            have HI := Lib.hid hI
            have HN := Lib.hid hN
            subst e1
            clear hkey hv hne hO hB hI hN
            go_wp2_with (first
              | (go_at_call 27; refine hget.mono ?_; rintro e w8 ⟨rfl, b8⟩; have hc8 := Chg.of_below b8 []; have hI8 := map_chg HI.out hc8 (by simp); have hN8 := HN.out.below b8 HN.out.lt; have hB8 := HB.out.trans (b8.mono hbz); have hO8 := own_chg HO.out hc8 (by simp); have HI8 := Lib.hid hI8; have HN8 := Lib.hid hN8; have HB8 := Lib.hid hB8; have HO8 := Lib.hid hO8; have hz8 := hB8.size; clear hI8 hN8 hB8 hO8 hc8)
              | (at_mapUpdate; refine wpList_mapUpdate_own _ rfl _ _ _ 34 rfl 9 3 keyed9 Try.underlying34 _ be nn D rfl HI8.out (by unfold maxLen; omega) _ _ _ rfl rfl HKEY.out _ [] (plainElem_int Try.underlying3 HV.out) ?_; intro w9 hown9 hgrow9))
            have hc9 := chg_mapH hgrow9
            go_roundg ((keysM N).length - (j + 1))
            case rel => exact ⟨j + 1, nn + 1, _, by omega, by go_num, rfl, by omega, HM'.out, HN8.out.chg hc9 (by simp; omega), hown9, own_chg HO8.out hc9 (fun q hq hm => HNE.out q hq (by simpa using hm)), below_chg HB8.out hc9 hz8 (by simp; omega)⟩
            case measure => omega
          · obtain rfl : j = (keysM N).length := by omega
            have hspl0 := split_any wr g N HOK.out (by omega) (by rw [HSPL.out]; omega) hN
            have hku : (keysM N).length = N.u := keysM_len N
            have HO := Lib.hid hO
            have HB := Lib.hid hB
            have HI := Lib.hid hI
            have HN := Lib.hid hN
            have HM := Lib.hid hM
            have hgb := map_ne hI hN
            clear hO hB hI hN hM
            by_cases hu : N.u < 2
            · have hspl2 : Calls Try.prog 31 #[.pointer (some ⟨g, 0, none⟩)] wr fun e w' => e = .returned (.tuple #[.pointer none, .string ⟨#[]⟩, .int .i64 4]) ∧ Below wr.heap.size wr w' := hspl0.mono fun e w' h => by
                rcases h with ⟨_, h2, h3⟩ | ⟨h1, _⟩
                · exact ⟨h2, h3⟩
                · omega
              have hl2 : (keysM N).length < 2 := by omega
              clear hspl0 hku hu
              go_wp2_with (first
                | (go_at_call 31; refine hspl2.mono ?_; rintro e w8 ⟨rfl, b8⟩; have hN8 := HN.out.below b8 HN.out.lt; have hB8 := HB.out.trans (b8.mono hbz); have hO8 := own_chg HO.out (Chg.of_below b8 []) (by simp); have HN8 := Lib.hid hN8; have HB8 := Lib.hid hB8; have HO8 := Lib.hid hO8; have hz8 := hB8.size; clear hN8 hB8 hO8)
                | (go_at_call 29; refine (keys_any _ g N HOK.out HN8.out).mono ?_; rintro e w9 ⟨a9, k9, rfl, hO9, b9⟩; have hst := sameTexts_any w9 a9 a6 _ _ k9 k6 (keysM N) (keysM N) rfl rfl ⟨by omega, by omega⟩ hO9.rd (OwnS.below HO8.out b9).rd; rw [decide_eq_true rfl] at hst; have hB9 := HB8.out.trans (b9.mono hz8); have HB9 := Lib.hid hB9; clear hB9 hO9)
                | (go_at_call 32; refine hst.mono ?_; rintro e w10 ⟨rfl, q, rfl⟩))
              go_ret
              exact ⟨rfl, below_drewN HB9.out q⟩
            · obtain ⟨hk1, hk2, hk3, hk4⟩ := keys_halves HOK.out
              have hlk := splitL_ok HOK.out
              have hrk := splitR_ok N
              have hhf := fun i (hi : i < N.ents.length) => half_get HOK.out hi
              have hspl2 : Calls Try.prog 31 #[.pointer (some ⟨g, 0, none⟩)] wr fun e w' => ∃ r, wr.heap.size ≤ r ∧ e = .returned (.tuple #[.pointer (some ⟨r, 0, none⟩), .string ((keysM (splitR N)).getD 0 emp), .int .i64 0]) ∧ Blk w' g 95 (ndCells (splitL N)) ∧ Blk w' r 95 (ndCells (splitR N)) ∧ Chg [g] wr w' := hspl0.mono fun e w' h => by
                rcases h with ⟨h1, _⟩ | ⟨_, h2⟩
                · omega
                · rw [hk4]; exact h2
              clear hspl0 hk4
              generalize splitL N = LN at hk1 hk2 hlk hhf hspl2
              generalize splitR N = RN at hk1 hk3 hrk hhf hspl2
              obtain ⟨p, hp⟩ : ∃ p, (keysM LN).length = p := ⟨_, rfl⟩
              obtain ⟨s, hs⟩ : ∃ s, (keysM RN).length = s := ⟨_, rfl⟩
              rw [hp] at hk2
              rw [hs] at hk3
              have hps : (keysM N).length = p + s := by omega
              have hs0 : 0 < s := by omega
              have hps15 : p + s ≤ 15 := by omega
              have hpc : p = s ∨ p = s + 1 := by omega
              have hkL : ∀ W, Blk W g 95 (ndCells LN) → Calls Try.prog 29 #[.pointer (some ⟨g, 0, none⟩)] W fun e w' => ∃ a k, e = .returned (.slice a p k) ∧ w'.ownsRow W.heap.size 9 1 (.slice a p k) p ((keysM LN).map .string) ∧ Below W.heap.size W w' := fun W hW => by
                have := keys_any W g LN hlk hW
                unfold KeysPost OwnS at this
                rw [hp] at this
                exact this
              have hkR : ∀ r W, Blk W r 95 (ndCells RN) → Calls Try.prog 29 #[.pointer (some ⟨r, 0, none⟩)] W fun e w' => ∃ a k, e = .returned (.slice a s k) ∧ w'.ownsRow W.heap.size 9 1 (.slice a s k) s ((keysM RN).map .string) ∧ Below W.heap.size W w' := fun r W hW => by
                have := keys_any W r RN hrk hW
                unfold KeysPost OwnS at this
                rw [hs] at this
                exact this
              have HK1 := Lib.hid hk1
              have HP := Lib.hid hp
              have HS := Lib.hid hs
              have HHF := Lib.hid hhf
              have HPS := Lib.hid hps
              have HKL := Lib.hid hkL
              have HKR := Lib.hid hkR
              clear hk1 hk2 hk3 hp hs hhf hku hu hps hkL hkR
              obtain ⟨x, hx⟩ : ∃ x, (keysM RN).getD 0 emp = x := ⟨_, rfl⟩
              rw [hx] at hspl2
              have HX := Lib.hid hx
              clear hx
              go_upto_region 24 with (first
                | (go_at_call 31; refine hspl2.mono ?_; rintro e w8 ⟨r, hr, rfl, hL8, hR8, hc8⟩; have hI8 := map_chg HI.out hc8 (by simpa using hgb); have hO8 : OwnS w.heap.size w8 a6 k6 (keysM N) := OwnS.chg HO.out HN.out (by decide) hc8; have hB8 := below_chg HB.out hc8 hbz (by simp; omega); have HI8 := Lib.hid hI8; have HB8 := Lib.hid hB8; have HO8 := Lib.hid hO8; have HL8 := Lib.hid hL8; have HR8 := Lib.hid hR8; have hz8 := hB8.size; clear hI8 hB8 hO8 hL8 hR8 hc8)
                | (go_at_call 29; (with_reducible refine (HKR.out r _ HR9.out).mono ?_); rintro e w10 ⟨aR, kR, rfl, oR10, b10⟩)
                | (go_at_call 29; (with_reducible refine (HKL.out _ HL8.out).mono ?_); rintro e w9 ⟨aL, kL, rfl, oL9, b9⟩; have HR9 := Lib.hid (HR8.out.below b9 HR8.out.lt); have HL9 := Lib.hid (HL8.out.below b9 HL8.out.lt); have HOL9 := Lib.hid oL9; have HB9 := Lib.hid b9; clear oL9 b9))
              have hr10 := HR9.out.below b10 HR9.out.lt
              have hl10 := HL9.out.below b10 HL9.out.lt
              have hz9 := HB9.out.size
              have hb810 : Below w8.heap.size w8 w10 := HB9.out.trans (b10.mono hz9)
              have hB10 := HB8.out.trans (hb810.mono hz8)
              have hI10 := map_chg HI8.out (Chg.of_below hb810 []) (by simp)
              have hO10 : OwnS w.heap.size w10 a6 k6 (keysM N) := OwnS.below HO8.out hb810
              have hol10 := own_chg HOL9.out (Chg.of_below b10 []) (by simp)
              have HOL10 := Lib.hid hol10
              have HOR10 := Lib.hid oR10
              obtain ⟨br, er, hrB, hbr, hcr⟩ := own_rd oR10 0 (.string x) (by
                have := HX.out; have h2 := HS.out
                rw [List.getElem?_map]
                cases hh : keysM RN with
                | nil => rw [hh] at h2; simp at h2; omega
                | cons y l => rw [hh] at this; simpa using this)
              subst er
              have HR10 := Lib.hid hr10
              have HL10 := Lib.hid hl10
              have HB10 := Lib.hid hB10
              have HI10 := Lib.hid hI10
              have HO10 := Lib.hid hO10
              clear hr10 hl10 hb810 hB10 hI10 hO10 hol10 oR10 b10 HR9 HL9 HOL9 HB9 HR8 HL8 HB8 HI8 HO8
              have hz10 := HB10.out.size
              have hs00 : ((s : Int) == 0) = false := by simp only [beq_eq_false_iff_ne]; omega
              rcases hpc with rfl | rfl
              all_goals
                go_upto_region 26 with (first
                  | (at_builtin; refine wpList_unguard (by go_simp) ?_; refine wpList_append_to rfl (.tmp 132) (.tmp 133) 44 rfl w10.heap.size 9 i0 (.string ⟨#[]⟩) 1 16 Try.underlying44 HINF.out hz0 hz1 hz2 rfl (by decide) _ _ _ rfl hown11 _ _ _ ((keysM RN).map .string) rfl (by rw [List.length_map, HS.out, Nat.mul_one]) (own_news (own_chg HOR10.out (Chg.of_below hb11 []) (by simp))) (str_one _) _ rfl ((keysM N).map .string) (by rw [← List.map_append, HK1.out]) (by unfold maxLen; omega) (by omega) hb11.size ?_; intro aT kT w12 hown12 hgr12; have hb12 : Below w10.heap.size w10 w12 := below_grown hb11 hgr12 hb11.size (below_own hown11); have hst := sameTexts_any w12 aT a6 _ (keysM N).length kT k6 (keysM N) (keysM N) HPS.out rfl ⟨by omega, by omega⟩ (own_rdS hown12 HPS.out) (OwnS.below HO10.out hb12).rd; rw [decide_eq_true rfl] at hst)
                  | (at_builtin; refine wpList_unguard (by go_simp) ?_; refine wpList_append_to rfl (.tmp 130) (.tmp 131) 44 rfl w10.heap.size 9 i0 (.string ⟨#[]⟩) 1 16 Try.underlying44 HINF.out hz0 hz1 hz2 rfl (by decide) _ 0 [] rfl (own_zero w10) _ _ _ ((keysM LN).map .string) rfl (by rw [List.length_map, HP.out, Nat.mul_one]) (own_news (own_chg HOL10.out ((Chg.refl [] w10).alloc _) (by simp))) (str_one _) _ (Nat.zero_add _) ((keysM LN).map .string) rfl (by unfold maxLen; omega) (by omega) (by simp) ?_; intro aM kM w11 hown11 hgr11; have hb11 : Below w10.heap.size w10 w11 := below_grown ((Below.refl _ w10).alloc (Nat.le_refl _) _) hgr11 (by simp) (fun q hq => by cases hq; exact Nat.le_refl _))
                  | (go_at_call 32; refine hst.mono ?_; rintro e w13 ⟨rfl, q, rfl⟩))
                have hz12 := hb12.size
                have HB13 := Lib.hid (below_drewN (HB10.out.trans (hb12.mono hz10)) q)
                have HR13 := Lib.hid ((HR10.out.below hb12 HR10.out.lt).drewN q)
                have HL13 := Lib.hid ((HL10.out.below hb12 HL10.out.lt).drewN q)
                have HI13 := Lib.hid (map_chg HI10.out ((Chg.of_below hb12 []).drewN q) (by simp))
                have hO13 : OwnS w.heap.size (w12.drewN q) a6 k6 (keysM N) := own_chg HO10.out ((Chg.of_below hb12 []).drewN q) (by simp)
                have HO13 := Lib.hid hO13
                clear hO13 hst hown11 hown12 hgr11 hgr12 hb11 hspl2 hs0 hbr hcr hrB hz12
                generalize w12.drewN q = w13 at HB13 HR13 HL13 HI13 HO13 ⊢
                clear HB10 HR10 HL10 HI10 HO10 HOL10 HOR10 hz10 hz9 hz8 HO HB HI HN hb12
                go_wp2_with fail
                go_loopg [141] (keysM N).length (fun gn iv wy => ∃ (j : Nat), j ≤ (keysM N).length ∧ iv = .int .i64 j ∧ gn = (keysM N).length - j ∧ Blk wy g 95 (ndCells LN) ∧ Blk wy r 95 (ndCells RN) ∧ MapIs wy be nn D ∧ OwnS w.heap.size wy a6 k6 (keysM N) ∧ Below w.heap.size w wy)
                case atStart => exact ⟨0, Nat.zero_le _, rfl, rfl, HL13.out, HR13.out, HI13.out, HO13.out, HB13.out⟩
                case round =>
                  clear HL13 HR13 HI13 HO13 HB13
                  obtain ⟨i, hi, rfl, rfl, hL, hR, hI, hO, hB⟩ := hrel
                  have hbz := hB.size
                  by_cases hil : i < (keysM N).length
                  · obtain ⟨b, oo, e1, hb, c⟩ := hO.rd i hil
                    have hje : i < N.ents.length := by rw [← HKE.out]; exact hil
                    rw [keys_at N hje] at c
                    have hhf := HHF.out i hje
                    have hval := HM.out.val i hil hje
                    have hv := bounds_i64 (HWF.out _ (List.getElem_mem hje))
                    have hkz := HOK.out.big _ (List.getElem_mem hje)
                    have hkey : keyOf Try.prog 9 (.string (N.ents[i]).1) = some (litK (N.ents[i]).1) := keyOf_string_mk Try.underlying9 (by unfold maxLen; omega)
                    have hgL := get_any wr g LN hlk hL (N.ents[i]).1
                    have hgR := fun W hW => get_any W r RN hrk hW (N.ents[i]).1
                    clear hkz
                    generalize N.ents[i] = x0 at *
                    obtain ⟨key, v⟩ := x0
                    dsimp only at c hhf hval hv hkey hgL hgR
                    subst e1
                    have HKEY := Lib.hid hkey
                    have HVAL := Lib.hid hval
                    have HO := Lib.hid hO
                    have HB := Lib.hid hB
                    have HI := Lib.hid hI
                    have HL := Lib.hid hL
                    have HR := Lib.hid hR
                    obtain ⟨hv1, hv2⟩ := hv
                    have hw1 : IntKind.i64.wrap v = v := IntWalk.i64_in _ (by omega)
                    clear hkey hval hO hB hI hL hR
                    rcases hhf with ⟨q1, q2⟩ | ⟨q1, q2⟩
                    all_goals
                      rw [q1] at hgL
                      simp only [q2] at hgR
                      clear q1 q2
                      go_wp2_with (first
                        | (go_at_call 27; (with_reducible refine (hgR _ HR14.out).mono ?_); rintro e w15 ⟨rfl, b15⟩; have HR15 := Lib.hid (HR14.out.below b15 HR14.out.lt); have HL15 := Lib.hid (HL14.out.below b15 HL14.out.lt); have hI15 := map_chg HI14.out (Chg.of_below b15 []) (by simp); have HI15 := Lib.hid hI15; have hO15 := own_chg HO14.out (Chg.of_below b15 []) (by simp); have HO15 := Lib.hid hO15; have HB15 := Lib.hid (HB14.out.trans (b15.mono HB14.out.size)); clear hI15 hO15 b15)
                        | (go_at_call 27; (with_reducible refine hgL.mono ?_); rintro e w14 ⟨rfl, b14⟩; have HR14 := Lib.hid (HR.out.below b14 HR.out.lt); have HL14 := Lib.hid (HL.out.below b14 HL.out.lt); have hI14 := map_chg HI.out (Chg.of_below b14 []) (by simp); have HI14 := Lib.hid hI14; have hO14 := own_chg HO.out (Chg.of_below b14 []) (by simp); have HO14 := Lib.hid hO14; have HB14 := Lib.hid (HB.out.trans (b14.mono HB.out.size)); clear hI14 hO14 b14)
                        | (at_lookup; refine wpList_unguard (by go_simp) ?_; refine wpList_lookup_own_int _ rfl _ _ 34 rfl 9 3 .i64 keyed9 Try.underlying34 Try.underlying3 (zero3 _) be nn D rfl HI15.out _ _ rfl HKEY.out ?_; intro cc hat hwc; obtain rfl : v = cc := lit_inj ((HVAL.out _).symm.trans hat); clear hat hwc))
                      go_roundg ((keysM N).length - (i + 1))
                      case rel => exact ⟨i + 1, by omega, by go_num, rfl, HL15.out, HR15.out, HI15.out, HO15.out, HB15.out⟩
                      case measure => omega
                  · have HB := Lib.hid hB
                    clear hL hR hI hO hB
                    go_wp2_with fail
                    go_ret
                    exact ⟨rfl, HB.out⟩

end Go.Proofs.Ythplnecnagbedaa
