/- The law EpochFrees walked: for every plan and every list of calls it returns true and leaves all that was there as it was; conditions: none but that the list's length is a slice's. -/
import Derived.Test.YtmmaklddbkdenaaFreesMem
import Derived.Test.YtmmaklddbkdenaaNewSome
import Derived.Deep.DeepCutAuto
import Derived.Deep.CutBlock
namespace Go.Proofs.Ytmmaklddbkdenaa
open Go.RowKit Go.Maps

set_option maxRecDepth 100000 in
set_option maxHeartbeats 4000000 in
theorem epochFrees_any (w : World) (n e g : Int) (ao : Option Addr) (len cap : Nat) (A : List (Int × Int)) (hA : A.length = len) (hl : len ≤ 9223372036854775807) (hrd : Rd2 w w.heap.size ao A) :
    Calls Try.prog 6 #[.agg #[.int .i64 n, .int .i64 e, .int .i64 g], .slice ao len cap] w fun e w' => e = .returned (.bool true) ∧ Below w.heap.size w w' := by
  have hW := fun W => lawWorks_any W
  cases hb : newBad n e g with
  | true =>
    have hN := fun W => new_bad n e g W hb
    clear hb hA
    go_enter Try.func6, Try.ntmps6
    go_wp2_with (first | (go_at_call 8; refine (hW _).mono ?_; rintro e w1 ⟨rfl, b1⟩; have x0 := (Blk.new w 23 #[.int .i64 n, .int .i64 e, .int .i64 g]).below b1 (by simp); have x1 := x0.at 0 rfl; have x2 := x0.at 1 rfl; have x3 := x0.at 2 rfl) | (go_at_call 9; refine (hN _).mono ?_; rintro e w2 ⟨rfl, rfl⟩))
    go_ret
    exact ⟨rfl, ((Below.refl _ _).alloc (Nat.le_refl _) _).trans (b1.mono (by simp))⟩
  | false =>
    have hN := fun W => new_any n e g W hb
    have gd0 := newK_good hb
    have HA := Lib.hid hA
    clear hb hA
    have hmm := @run_makeMap Try.prog
    go_enter Try.func6, Try.ntmps6
    go_wp2_with (first | (go_at_call 8; refine (hW _).mono ?_; rintro e w1 ⟨rfl, b1⟩; have x0 := (Blk.new w 23 #[.int .i64 n, .int .i64 e, .int .i64 g]).below b1 (by simp); have x1 := x0.at 0 rfl; have x2 := x0.at 1 rfl; have x3 := x0.at 2 rfl) | (go_at_call 9; refine (hN _).mono ?_; rintro e w2 ⟨c, bw, rfl, h2, c1, c2, b2⟩))
    have z1 := b1.size
    have z2 := b2.size
    have z3 := h2.1.lt
    have z4 := h2.2.lt
    simp only [World.size_alloc] at z1
    have b12 : Below w.heap.size w w2 := (((Below.refl _ _).alloc (Nat.le_refl _) _).trans (b1.mono (by simp))).trans (b2.mono (by omega))
    clear hN hW b1 b2 x0 x1 x2 x3
    have F0 : Fr w.heap.size w ((w2.alloc (.cells #[.int .i64 0, .int .i64 0, .int .i64 0, .int .i64 0, .int .i64 0, .int .i64 0, .int .i64 0, .int .i64 0, .int .i64 0, .int .i64 0, .int .i64 0, .int .i64 0, .int .i64 0, .int .i64 0, .int .i64 0, .int .i64 0] 30)).alloc (.map #[] 0)) c bw w2.heap.size (w2.heap.size + 1) (.slice none 0 0) (newK n e g) [] (List.replicate 16 0) 0 (.map []) := by
      refine ⟨⟨(h2.1.alloc _).alloc _, (h2.2.alloc _).alloc _⟩, World.ownsRow_nil _ _ _ _, ?_, ?_, (b12.alloc (by omega) _).alloc (by simp; omega) _, by omega, by omega, by omega, by omega, (fun g hg => by cases hg)⟩
      · rw [← z16 16 (by omega)]; exact (Blk.new _ _ _).alloc _
      · have := World.ownsMap_made (H := Unit) (w2.alloc (.cells #[.int .i64 0, .int .i64 0, .int .i64 0, .int .i64 0, .int .i64 0, .int .i64 0, .int .i64 0, .int .i64 0, .int .i64 0, .int .i64 0, .int .i64 0, .int .i64 0, .int .i64 0, .int .i64 0, .int .i64 0, .int .i64 0] 30)) Try.prog 3 (plainElem Try.prog 3)
        simpa using this
    have I0 := FInv.first gd0
    generalize w2.heap.size = be at F0
    go_loopg [9] 300 (fun gn i wr => ∃ (j nn : Nat) (k : Ck) (ts : List (Int × Int)) (ent : List Int) (tv : Value) (D : DataW Unit), j ≤ len ∧ j ≤ 300 ∧ i = .int .i64 j ∧ gn = 300 - j ∧ nn ≤ j ∧ Fr w.heap.size w wr c bw be (be + 1) tv k ts ent nn D ∧ FInv j k ts ent ∧ RetM D (fun x => ∃ y ∈ ts, y.1 = x))
    case atStart => exact ⟨0, 0, _, _, _, _, _, Nat.zero_le _, Nat.zero_le _, rfl, rfl, Nat.le_refl _, F0, I0, RetM.empty.congr (fun x => by simp)⟩
    case round =>
      obtain ⟨j, nn, k, ts, ent, tv, D, hj1, hj2, rfl, rfl, hnn, hF, hI, hD⟩ := hrel
      by_cases h300 : j < 300
      · by_cases hlen : j < len
        · have hjA : j < A.length := by rw [HA.out]; exact hlen
          have hrj := (hrd.below hF.bel) j hjA
          generalize (A.getD j (0, 0)).1 = kd at hrj
          generalize (A.getD j (0, 0)).2 = nm at hrj
          obtain ⟨b, off, rfl, hbB, r1, r2⟩ := hrj
          clear hjA
          have hFo := hF.alloc (.cells #[.int .i64 kd, .int .i64 nm] 32)
          have hLo := Blk.new wr 32 #[.int .i64 kd, .int .i64 nm]
          have hAm := fun W => among_any kd 5 W (by decide) (by decide)
          go_upto_block 1 with fail
          go_cut [60] (fun _ wx => ∃ (nn : Nat) (k : Ck) (ts : List (Int × Int)) (ent : List Int) (tv : Value) (D : DataW Unit), nn ≤ j + 1 ∧ Fr w.heap.size w wx c bw be (be + 1) tv k ts ent nn D ∧ FInv (j + 1) k ts ent ∧ RetM D (fun x => ∃ y ∈ ts, y.1 = x))
          case first =>
            have hk := hI.good.ok
            have hlt16 := hk.len
            have hel := hI.len
            have hbw := hF.C.2.lt
            have hcl := hF.C.1.lt
            by_cases hm0 : kd % 5 = 0
            · simp only [hm0] at hAm
              have hE := enter_any _ c bw tv k hFo.C hk nm
              cases hbad : turnBad k.ws nm k.glob with
              | true =>
                rw [(turn_bad hbad).1, (turn_bad hbad).2, show enterN k nm = 0 by simp [enterN, hbad]] at hE
                clear hbad
                go_wp2_with (first | (go_at_call 10; refine (hAm _).mono ?_; rintro e w' ⟨rfl, rfl⟩) | (go_at_call 11; refine hE.mono ?_; rintro e w3 ⟨rfl, h3, c3⟩))
                go_meet
                exact ⟨nn, k, ts, ent, tv, D, by omega, hFo.clk2 h3 c3 (by simp), hI.same, hD⟩
              | false =>
                rw [(turn_good hbad).1, show enterN k nm = k.glob by simp [enterN, hbad]] at hE
                obtain ⟨m, rfl, hml⟩ := turnBad_false hbad
                have hI' := Lib.hid (hI.enter hbad)
                have hmE : m < ent.length := by omega
                clear hbad
                go_wp2_with (first | (go_at_call 10; refine (hAm _).mono ?_; rintro e w' ⟨rfl, rfl⟩) | (go_at_call 11; refine hE.mono ?_; rintro e w3 ⟨rfl, h3, c3⟩; have hF3 := hFo.clk2 h3 c3 (by simp); have hL3 := hLo.chg c3 (by simp; omega); have q1 := hF3.E.at m (atV_get (by omega) (by omega)); have q2 := hF3.E.free m; have q3 := hL3.at 1 rfl))
                go_meet
                exact ⟨nn, _, ts, _, tv, D, by omega, hF3.set hmE _, hI'.out, hD⟩
            by_cases hm1 : kd % 5 = 1
            · simp only [hm1] at hAm
              have hE := leave_any _ c bw tv k hFo.C hk nm
              cases hbad : turnBad k.ws nm 0 with
              | true =>
                rw [(turn_bad hbad).1, (turn_bad hbad).2] at hE
                clear hbad
                go_wp2_with (first | (go_at_call 10; refine (hAm _).mono ?_; rintro e w' ⟨rfl, rfl⟩) | (go_at_call 12; refine hE.mono ?_; rintro e w3 ⟨rfl, h3, c3⟩))
                go_meet
                exact ⟨nn, k, ts, ent, tv, D, by omega, hFo.clk2 h3 c3 (by simp), hI.same, hD⟩
              | false =>
                rw [(turn_good hbad).1] at hE
                obtain ⟨m, rfl, hml⟩ := turnBad_false hbad
                have hI' := Lib.hid (hI.leave hbad)
                have hmE : m < ent.length := by omega
                clear hbad
                go_wp2_with (first | (go_at_call 10; refine (hAm _).mono ?_; rintro e w' ⟨rfl, rfl⟩) | (go_at_call 12; refine hE.mono ?_; rintro e w3 ⟨rfl, h3, c3⟩; have hF3 := hFo.clk2 h3 c3 (by simp); have hL3 := hLo.chg c3 (by simp; omega); have q1 := hF3.E.at m (atV_get (by omega) (by omega)); have q2 := hF3.E.free m; have q3 := hL3.at 1 rfl))
                go_meet
                exact ⟨nn, _, ts, _, tv, D, by omega, hF3.set hmE _, hI'.out, hD⟩
            by_cases hm2 : kd % 5 = 2
            · simp only [hm2] at hAm
              have hE := advance_any _ c bw tv k hFo.C hk
              go_wp2_with (first | (go_at_call 10; refine (hAm _).mono ?_; rintro e w' ⟨rfl, rfl⟩) | (go_at_call 14; refine hE.mono ?_; rintro e w3 ⟨rfl, h3, c3⟩))
              go_meet
              exact ⟨nn, _, ts, ent, tv, D, by omega, hFo.clk2 h3 c3 (by simp), hI.adv, hD⟩
            by_cases hm3 : kd % 5 = 3
            · simp only [hm3] at hAm
              have hE := retire_any _ c bw tv k ts hFo.C hFo.T hI.size (j : Int)
              have hwf : (Lit.int .i64 (j : Int)).wf = true := WalkArith.wf_i64 (by omega)
              have hkey := keyOf_int_mk (P := Try.prog) Try.underlying3 hwf
              by_cases hfull : 4096 ≤ ts.length
              · rw [show retE ts = 2 by simp [retE, hfull], show retT ts ((j : Int), k.glob) = ts by simp [retT, hfull]] at hE
                go_wp2_with (first | (go_at_call 10; refine (hAm _).mono ?_; rintro e w' ⟨rfl, rfl⟩) | (go_at_call 16; refine hE.mono ?_; rintro e w3 ⟨rfl, tv', h3, t3, c3, m3⟩))
                go_meet
                exact ⟨nn, k, ts, ent, tv', D, by omega, hFo.clk h3 t3 c3 mem_ct m3, hI.same, hD⟩
              · rw [show retE ts = 0 by simp [retE, hfull], show retT ts ((j : Int), k.glob) = ts ++ [((j : Int), k.glob)] by simp [retT, hfull]] at hE
                have hI' := hI.retire (by omega)
                go_wp2_with (first | (go_at_call 10; refine (hAm _).mono ?_; rintro e w' ⟨rfl, rfl⟩) | (go_at_call 16; refine hE.mono ?_; rintro e w3 ⟨rfl, tv', h3, t3, c3, m3⟩; have hF3 := hFo.clk h3 t3 c3 mem_ct m3) | (at_mapUpdate; refine wpList_mapUpdate_own _ rfl _ _ _ 44 rfl 3 3 keyed3 Try.underlying44 _ (be + 1) nn D rfl hF3.M (by unfold maxLen; omega) _ _ _ rfl rfl hkey _ [] (plainElem_int Try.underlying3 hwf) ?_; intro w4 hown4 hgrow4))
                go_meet
                exact ⟨nn + 1, k, _, ent, tv', _, by omega, hF3.map hown4 hgrow4, hI', (hD.put hF3.M.isMap _ trivial).congr (fun x => by simp [or_and_right, exists_or, eq_comm])⟩
            · have hm4 : kd % 5 = 4 := by omega
              simp only [hm4] at hAm
              have hE := free_any _ c bw tv k ts hFo.C hk hI.size hFo.T
              have hnd := Lib.hid hI.told_nd
              have hap := Lib.hid (fun t (ht : t ∈ toldT k ts) => hI.apart ht)
              have hwr : ∀ t ∈ toldT k ts, 0 ≤ t ∧ t < 1000 ∧ ∀ q, 0 < ent.getD q 0 → t ≤ ent.getD q 0 - 1 := fun t ht => by
                obtain ⟨y, hy, hf, rfl⟩ := mem_toldT.1 ht
                have := hI.lt y hy
                exact ⟨by omega, by omega, fun q => hI.told hy hf q⟩
              have hWR := Lib.hid hwr
              have htl := toldT_le k ts
              have hts := hI.size
              have hsplit : ∀ x, (∃ y ∈ ts, y.1 = x) ↔ (∃ y ∈ keepT k ts, y.1 = x) ∨ x ∈ (toldT k ts).drop 0 := fun x => by
                simp only [List.drop_zero, mem_toldT, mem_keepT]
                constructor
                · rintro ⟨y, hy, rfl⟩
                  cases hf : freeP k y.2 with
                  | false => exact .inl ⟨y, ⟨hy, hf⟩, rfl⟩
                  | true => exact .inr ⟨y, hy, hf, rfl⟩
                · rintro (⟨y, ⟨hy, _⟩, rfl⟩ | ⟨y, hy, _, rfl⟩) <;> exact ⟨y, hy, rfl⟩
              have hD0 := Lib.hid (hD.congr hsplit)
              have hI' := hI.free
              clear hwr hsplit hD
              unfold FreeE at hE
              generalize toldT k ts = tl at hE hnd hap hWR htl hD0
              go_wp2_with (first | (go_at_call 10; refine (hAm _).mono ?_; rintro e w' ⟨rfl, rfl⟩) | (go_at_call 17; refine hE.mono ?_; rintro e w3 ⟨tv', ov, rfl, h3, t3, hown, hO, c3⟩; obtain ⟨AO, co, rfl, _⟩ := own_form hO; have hF3 := hFo.clk h3 t3 c3 mem_ct (.inl hown); have zl := c3.size))
              clear hE hAm r1 r2
              have hO1 : Own1 0 w3 (.slice AO tl.length co) tl := own_base hO (Nat.zero_le _)
              have hen := hI.ents
              go_loopg [64] tl.length (fun gn iv wx => ∃ (i : Nat) (D' : DataW Unit), iv = .int .i64 i ∧ i ≤ tl.length ∧ gn = tl.length - i ∧ Fr w.heap.size w wx c bw be (be + 1) tv' k (keepT k ts) ent nn D' ∧ Own1 0 wx (.slice AO tl.length co) tl ∧ RetM D' (fun x => (∃ y ∈ keepT k ts, y.1 = x) ∨ x ∈ tl.drop i))
              case atStart => exact ⟨0, D, rfl, Nat.zero_le _, rfl, hF3, hO1, hD0.out⟩
              case round =>
                obtain ⟨i, D', rfl, hi, rfl, hF', hO', hD'⟩ := hrel
                by_cases hil : i < tl.length
                · obtain ⟨go, rfl, _, hgo, cO⟩ := own_at (u := .int .i64 (tl.getD i 0)) hO' hil (by simp [List.getD, hil])
                  have hmem : tl.getD i 0 ∈ tl.drop i := by rw [drop_cons tl i hil]; exact List.mem_cons_self ..
                  have hmem2 := List.mem_of_mem_drop hmem
                  obtain ⟨x0, x1, xq⟩ := hWR.out _ hmem2
                  have hx1 := Lib.hid ((hD' _ x0 x1).1.2 (.inr hmem))
                  have hx2 := Lib.hid ((hD' _ x0 x1).2 (.inr hmem))
                  have hDn := Lib.hid ((hD'.del (tl.getD i 0)).congr (drop_split hnd.out hil (p := fun x => ∃ y ∈ keepT k ts, y.1 = x) (fun ⟨y, hy, e⟩ => hap.out _ hmem2 y hy e)))
                  clear hmem hmem2 hD'
                  generalize tl.getD i 0 = x at cO x0 x1 xq hx1 hx2 hDn
                  have hkey := keyOf_int_mk (P := Try.prog) Try.underlying3 (WalkArith.wf_i64 (n := x) (by omega))
                  have HS := Lib.hid (Try.size30 (ws := ent) (by omega))
                  go_wp2_with (first | (at_lookup; refine wpList_lookup_own_ok_int _ rfl _ _ 44 rfl 3 3 .i64 keyed3 Try.underlying44 Try.underlying3 (zero3 _) (be + 1) nn D' rfl hF'.M _ _ rfl hkey ?_; intro cc hat hwc; obtain rfl : x = cc := lit_inj ((hx2.out _).symm.trans hat); rw [hx1.out]; clear hat hwc) | (at_delete; refine wpList_delete_own _ rfl _ _ 44 3 rfl 3 keyed3 Try.underlying44 _ (be + 1) nn D' rfl hF'.M _ _ rfl hkey ?_; intro w4 hown4 hturn4; have hF4 := hF'.map hown4 hturn4.grown) | (refine wpList_load_row rfl 30 _ rfl be rfl 30 _ (0, 0) _ hF4.E Try.underlying30 rfl HS.out ?_))
                  have hO4 : Own1 0 w4 (.slice (some ⟨go, 0, none⟩) tl.length co) tl := own_chg hO' (chg_map hturn4.grown) (fun g hg hx => map_own hF'.M hO' (by simp only [List.mem_singleton] at hx; rw [hg, hx]))
                  go_loop [79] (fun iv => ∃ q : Nat, q ≤ 16 ∧ iv = .int .i64 q) (fun iv => 16 - (intOf iv).toNat)
                  case atStart => exact ⟨0, by omega, rfl⟩
                  case round =>
                    obtain ⟨q, hq, rfl⟩ := hrel
                    by_cases hq16 : q < 16
                    · have hix := fun W => Try.index30 (ws := ent) (by omega) hq16 W
                      have hv := xq q
                      have hv2 := hen q
                      rw [← atL_getD q] at hv hv2
                      generalize (atL ent).getD q 0 = v at hix hv hv2
                      by_cases hp : 0 < v
                      · have hv1 := hv hp
                        clear hv
                        go_wp2_with fail
                        go_round
                        case rel => exact ⟨q + 1, by omega, by go_num⟩
                        case measure => simp [intOf]; omega
                      · clear hv
                        go_wp2_with fail
                        go_round
                        case rel => exact ⟨q + 1, by omega, by go_num⟩
                        case measure => simp [intOf]; omega
                    · go_wp2_with fail
                      go_roundg (tl.length - (i + 1))
                      case rel => exact ⟨i + 1, _, by go_num, by omega, rfl, hF4, hO4, hDn.out⟩
                      case measure => omega
                · obtain rfl : i = tl.length := by omega
                  go_wp2_with fail
                  go_meet
                  exact ⟨nn, k, _, ent, tv', D', by omega, hF', hI', hD'.congr (fun x => by simp)⟩
          case rest =>
            obtain ⟨nn', k', ts', ent', tv', D', hn', hF', hI', hD'⟩ := hcut
            go_wp2_with fail
            go_roundg (300 - (j + 1))
            case rel => exact ⟨j + 1, nn', k', ts', ent', tv', D', by omega, by omega, by go_num, rfl, hn', hF', hI', hD'⟩
            case measure => omega
        · go_wp2_with fail
          go_ret
          exact ⟨rfl, hF.bel⟩
      · by_cases hlen : j < len
        · go_wp2_with fail
          go_ret
          exact ⟨rfl, hF.bel⟩
        · go_wp2_with fail
          go_ret
          exact ⟨rfl, hF.bel⟩

end Go.Proofs.Ytmmaklddbkdenaa
