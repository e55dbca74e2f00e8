/- The walk of the law NodeOrder: a node against a map of texts to numbers; the keys stay sorted, as many as the map's and the order's; conditions: as what came in reads. -/
import Derived.Test.YthplnecnagbedaaNdMap
import Derived.Test.YthplnecnagbedaaNtWorks
import Derived.Deep.DeepCutAuto
import Derived.Deep.CutBlock
import Derived.Deep.QuietTactic
import Derived.BigQuiet
import Derived.IntWalk
namespace Go.Proofs.Ythplnecnagbedaa
open Go.RowKit Go.Maps Go.WideMaps

theorem chg_map {w w' : World} {b : Nat} (hg : w.grownBy w' (some b)) : Chg [b] w w' := Chg.of_grown hg (fun g hg => by injection hg with hg; subst hg; exact .inl (by simp))
theorem look_get {D : DataW Unit} {N : Nd} {k : ByteArray} (h : MapE D N.ents) : ∃ x b, getM N k = (x, b) ∧ Maps.has D (litK k) = b ∧ ∀ c, D.atKey (litK k) (.lit (.int .i64 0)) = .lit (.int .i64 c) → x = c := by
  have hl := fun c => h.look k (c := c)
  have hh := h.has k
  unfold getM
  cases hg : getE N.ents k with
  | some v =>
    refine ⟨v, true, rfl, ?_, fun c hc => ?_⟩
    · rw [hh]
      cases h2 : hasE N.ents k with
      | true => rfl
      | false => rw [get_has h2] at hg; cases hg
    · have := hl c hc; rw [hg] at this; exact this.symm
  | none =>
    refine ⟨0, false, rfl, ?_, fun c hc => ?_⟩
    · rw [hh]
      cases h2 : hasE N.ents k with
      | false => rfl
      | true => unfold getE at hg; rw [if_pos h2] at hg; cases hg
    · have := hl c hc; rw [hg] at this; exact this.symm
theorem look_take {D : DataW Unit} {N : Nd} {k : ByteArray} (hok : NdOk N) (h : MapE D N.ents) : ∃ x b, (takeM N k).2 = (x, if b then 0 else 5) ∧ Maps.has D (litK k) = b ∧ ∀ c, D.atKey (litK k) (.lit (.int .i64 0)) = .lit (.int .i64 c) → x = c := by
  obtain ⟨x, b, h1, h2, h3⟩ := look_get (k := k) h
  refine ⟨x, b, ?_, h2, h3⟩
  rw [takeM_out hok]
  unfold getM at h1
  unfold takeOut
  cases hg : getE N.ents k with
  | some v => rw [hg] at h1; injection h1 with a1 a2; subst a1 a2; rfl
  | none => rw [hg] at h1; injection h1 with a1 a2; subst a1 a2; rfl

theorem keys15 {N : Nd} (h : NdOk N) : (keysM N).length ≤ 15 := by rw [keysM_len]; exact h.u15
theorem size_keys {D : DataW Unit} {N : Nd} (h : MapE D N.ents) : Maps.size D = (keysM N).length := by rw [h.size, ents_len, keysM_len]
theorem keys_lt {N : Nd} (h : NdOk N) {k : Nat} (h1 : 1 ≤ k) (h2 : k < (keysM N).length) : bl ((keysM N).getD (k - 1) emp) ((keysM N).getD k emp) = true := by
  have hs := List.pairwise_iff_getElem.1 h.sorted
  have hl : (keysM N).length = N.ents.length := by unfold keysM; simp
  have := hs (k - 1) k (by omega) (by omega) (by omega)
  have e1 : (keysM N).getD (k - 1) emp = (N.ents[k - 1]'(by omega)).1 := by
    unfold keysM; simp only [List.getD, List.getElem?_map]; rw [List.getElem?_eq_getElem (by omega)]; rfl
  have e2 : (keysM N).getD k emp = (N.ents[k]'(by omega)).1 := by
    unfold keysM; simp only [List.getD, List.getElem?_map]; rw [List.getElem?_eq_getElem (by omega)]; rfl
  rw [e1, e2]
  exact this

set_option maxRecDepth 100000 in
set_option maxHeartbeats 4000000 in
theorem nodeOrder_any (w : World) (aa : Option Addr) (an ac : Nat) (A : List ActN) (hA : A.length = an) (_hla : an ≤ 9223372036854775807) (hrd : RdA w w.heap.size aa A) (hwf : WfA A) :
    Calls Try.prog 5 #[.slice aa an ac] w fun e w' => e = .returned (.bool true) ∧ Below w.heap.size w w' := by
  have HA := Lib.hid hA
  have HRD := Lib.hid hrd
  have HWF := Lib.hid hwf
  clear hA hrd hwf
  have hmm := @run_makeMap Try.prog
  go_enter Try.func5, Try.ntmps5
  go_upto_region 2 with (go_at_call 24; refine (new_any _).mono ?_; rintro e w1 ⟨rfl, hN1, b1, hlt1⟩)
  obtain ⟨g, hg⟩ : ∃ g, w1.heap.size - 1 = g := ⟨_, rfl⟩
  rw [hg] at hN1
  rw [hg]
  have hgw : w.heap.size ≤ g := by omega
  clear hg hlt1
  obtain ⟨N0, hN0, hok0, hi0, he0⟩ : ∃ N, N = nd0 ∧ NdOk N ∧ N.ins = 0 ∧ N.ents = [] := ⟨nd0, rfl, nd0_ok, rfl, nd0_ents⟩
  rw [← hN0] at hN1
  have HI0 := Lib.hid hi0
  have hM0 : MapE (.map []) N0.ents := by rw [he0]; exact mapE_nil
  clear hN0 hi0 he0
  go_wp2_with (go_at_call 23; refine (nodeWorks_any _).mono ?_; rintro e w2 ⟨rfl, b2⟩; have hN2 := hN1.below b2 hN1.lt)
  have hgl2 := hN2.lt
  have z1 := b1.size
  have hB2 : Below w.heap.size w w2 := b1.trans (b2.mono b1.size)
  have hI2 : MapIs (w2.alloc (.map #[] 0)) w2.heap.size 0 (.map []) := World.ownsMap_made (H := Unit) w2 Try.prog 9 (plainElem Try.prog 3)
  have hN3 := hN2.alloc (.map #[] 0)
  have hB3 := hB2.alloc hB2.size (.map #[] 0)
  have hbe0 := hB2.size
  have HB3 := Lib.hid hB3
  have HN3 := Lib.hid hN3
  have HI3 := Lib.hid hI2
  have HOK := Lib.hid hok0
  have HM0 := Lib.hid hM0
  clear hB2 hN2 hB3 hN3 hI2 hN1 b1 b2 hok0 hM0 hmm
  generalize w2.heap.size = be at *
  go_loopg [5] an (fun gn i wr => ∃ (t nn : Nat) (N : Nd) (D : DataW Unit), t ≤ an ∧ t ≤ 200 ∧ i = .int .i64 t ∧ gn = an - t ∧ nn ≤ t ∧
    NdOk N ∧ N.ins ≤ 20 * t ∧ MapE D N.ents ∧ Blk wr g 95 (ndCells N) ∧ MapIs wr be nn D ∧ Below w.heap.size w wr)
  case atStart => exact ⟨0, 0, N0, _, Nat.zero_le _, Nat.zero_le _, rfl, rfl, Nat.le_refl _, HOK.out, by rw [HI0.out]; exact Nat.le_refl _, HM0.out, HN3.out, HI3.out, HB3.out⟩
  case round =>
    clear HI0 HB3 HN3 HI3 HOK HM0
    obtain ⟨t, nn, N, D, hta, ht2, rfl, rfl, hnn, hok, hins, hM, hN, hI, hB⟩ := hrel
    have hgl := hN.lt
    have hil := map_lt hI
    have hbz := hB.size
    by_cases hgo : t < an ∧ t < 200
    · obtain ⟨h1, h2⟩ := hgo
      obtain ⟨ba, oa, e1, hba, c0, c1, c2⟩ := HRD.out t (by rw [HA.out]; exact h1)
      obtain ⟨wk, wv⟩ := HWF.out t (by rw [HA.out]; exact h1)
      subst e1
      have c0 := (hB.cell (p := ⟨ba, _, none⟩) hba).trans c0
      have c1 := (hB.cell (p := ⟨ba, _, none⟩) hba).trans c1
      have c2 := (hB.cell (p := ⟨ba, _, none⟩) hba).trans c2
      generalize A.getD t actN0 = x at c0 c1 c2 wk wv
      obtain ⟨xk, key, val⟩ := x
      dsimp only at c0 c1 c2 wk wv
      have hkey : keyOf Try.prog 9 (.string key) = some (litK key) := keyOf_string_mk Try.underlying9 wk
      have HKEY := Lib.hid hkey
      have HWV := Lib.hid wv
      clear wk wv hkey
      have ham := fun W => among_any xk 3 W (by omega) (by omega)
      have hr3 : xk % 3 = 0 ∨ xk % 3 = 1 ∨ xk % 3 = 2 := by omega
      generalize xk % 3 = r at ham hr3
      obtain ⟨W0, hW0⟩ : ∃ W0, W0 = wr.alloc (.cells #[.int .i64 xk, .string key, .int .i64 val] 36) := ⟨_, rfl⟩
      have hN0 : Blk W0 g 95 (ndCells N) := by rw [hW0]; exact hN.alloc _
      have hI0 : MapIs W0 be nn D := by rw [hW0]; exact hI.alloc _
      have hB0 : Below w.heap.size w W0 := by rw [hW0]; exact hB.alloc hbz _
      have hbx : Blk W0 wr.heap.size 36 #[.int .i64 xk, .string key, .int .i64 val] := by rw [hW0]; exact Blk.new _ _ _
      have HW0 := Lib.hid hW0
      have hput := put_any W0 g N hok (by omega) hN0 key val
      have htake := take_any W0 g N hok (by omega) hN0 key
      have hget := get_any W0 g N hok hN0 key
      have hI0lt := map_lt hI0
      have hbeg := map_ne hI0 hN0
      have hW0z := hB0.size
      have HN0 := Lib.hid hN0
      have HI0 := Lib.hid hI0
      have HB0 := Lib.hid hB0
      have HM := Lib.hid hM
      have HOK := Lib.hid hok
      rw [hW0] at hput htake hget
      clear hW0 hN0 hI0 hB0 hN hI hB hok hM
      go_upto_block 2 with (go_at_call 25; refine (ham _).mono ?_; rintro e w3 ⟨rfl, rfl⟩)
      clear ham
      go_cut [71] (fun _ wx => ∃ (nn' : Nat) (N' : Nd) (D' : DataW Unit), nn' ≤ t + 1 ∧ NdOk N' ∧ N'.ins ≤ 20 * (t + 1) ∧ MapE D' N'.ents ∧ Blk wx g 95 (ndCells N') ∧ MapIs wx be nn' D' ∧ Below w.heap.size w wx)
      case first =>
        rcases hr3 with rfl | rfl | rfl
        · have hpok := putM_ok HOK.out key val
          have hpi := putM_ins N key val
          have hpe := putM_ents HOK.out key val
          unfold PutPost at hput
          generalize putM N key val = R at hput hpok hpi hpe
          obtain ⟨N', o1, o2, o3⟩ := R
          dsimp only at hput hpok hpi hpe
          have HPOK := Lib.hid hpok
          clear hpok hget htake
          by_cases h3 : o3 = 0
          · subst h3
            rw [if_pos rfl] at hpe
            have hM' : MapE (D.put (litK key) (.lit (.int .i64 val))) N'.ents := by rw [hpe]; exact HM.out.put HOK.out.sorted key val
            have HM' := Lib.hid hM'
            clear hpe hM'
            go_wp2_with (first
              | (go_at_call 26; refine hput.mono ?_; rintro e w5 ⟨rfl, hN5, hc5⟩; rw [← HW0.out] at hc5; have hbx5 := hbx.chg hc5 (by simp; omega); have cx1 := hbx5.at 1 rfl; have cx2 := hbx5.at 2 rfl; have hI5 := map_chg HI0.out hc5 (by simpa using hbeg); have hgb := map_ne hI5 hN5; have hB5 := below_chg HB0.out hc5 hW0z (by simp; omega); have hz5 := hB5.size; have HN5 := Lib.hid hN5; have HI5 := Lib.hid hI5; have HB5 := Lib.hid hB5; have hcx := hc5; clear hN5 hI5 hB5)
              | (at_mapUpdate; refine wpList_mapUpdate_own _ rfl _ _ _ 34 rfl 9 3 keyed9 Try.underlying34 _ be nn D rfl HI5.out (by unfold maxLen; omega) _ _ _ rfl rfl HKEY.out _ [] (plainElem_int Try.underlying3 HWV.out) ?_; intro w6 hown6 hgrow6))
            have hc6 := chg_map hgrow6
            go_meet
            exact ⟨nn + 1, N', _, by omega, HPOK.out, by omega, HM'.out, HN5.out.chg hc6 (by simpa using Ne.symm hgb), hown6, below_chg HB5.out hc6 hz5 (by simp; omega)⟩
          · rw [if_neg h3] at hpe
            have hM' : MapE D N'.ents := by rw [hpe]; exact HM.out
            have HM' := Lib.hid hM'
            clear hpe hM'
            go_wp2_with ((go_at_call 26; refine hput.mono ?_; rintro e w5 ⟨rfl, hN5, hc5⟩; rw [← HW0.out] at hc5; have hbx5 := hbx.chg hc5 (by simp; omega); have cx1 := hbx5.at 1 rfl; have cx2 := hbx5.at 2 rfl; have hI5 := map_chg HI0.out hc5 (by simpa using hbeg); have hB5 := below_chg HB0.out hc5 hW0z (by simp; omega); have HN5 := Lib.hid hN5; have HI5 := Lib.hid hI5; have HB5 := Lib.hid hB5; clear hN5 hI5 hB5))
            go_meet
            exact ⟨nn, N', D, by omega, HPOK.out, by omega, HM'.out, HN5.out, HI5.out, HB5.out⟩
        · obtain ⟨x, b, hg1, hg2, hg3⟩ := look_get (k := key) HM.out
          rw [hg1] at hget
          have HG2 := Lib.hid hg2
          have HG3 := Lib.hid hg3
          clear hg1 hg2 hg3 hput htake
          cases b
          all_goals
            go_wp2_with (first
              | (go_at_call 27; refine hget.mono ?_; rintro e w5 ⟨rfl, b5⟩; rw [← HW0.out] at b5; have hbx5 := hbx.below b5 hbx.lt; have cx1 := hbx5.at 1 rfl; have hI5 := map_chg HI0.out (Chg.of_below b5 []) (by simp); have hN5 := HN0.out.below b5 HN0.out.lt; have hB5 := HB0.out.trans (b5.mono hW0z); have HN5 := Lib.hid hN5; have HI5 := Lib.hid hI5; have HB5 := Lib.hid hB5; clear hN5 hI5 hB5)
              | (at_lookup; refine wpList_lookup_own_ok_int _ rfl _ _ 34 rfl 9 3 .i64 keyed9 Try.underlying34 Try.underlying3 (zero3 _) be nn D rfl HI5.out _ _ rfl HKEY.out ?_; intro cc hat hwc; obtain rfl : x = cc := HG3.out cc hat; rw [HG2.out]; clear hat hwc))
            go_meet
            exact ⟨nn, N, D, by omega, HOK.out, by omega, HM.out, HN5.out, HI5.out, HB5.out⟩
        · obtain ⟨x, b, hg1, hg2, hg3⟩ := look_take (k := key) HOK.out HM.out
          have htok := takeM_ok HOK.out key
          have hti := takeM_ins N key
          have hM' : MapE (D.del (litK key)) (takeM N key).1.ents := by rw [takeM_ents HOK.out]; exact HM.out.del HOK.out.sorted key
          unfold TakePost at htake
          generalize takeM N key = R at htake htok hti hM' hg1
          obtain ⟨N', o1, o2⟩ := R
          dsimp only at htake htok hti hM' hg1
          injection hg1 with a1 a2
          subst a1 a2
          have HTOK := Lib.hid htok
          have HM' := Lib.hid hM'
          have HG2 := Lib.hid hg2
          have HG3 := Lib.hid hg3
          clear htok hM' hg2 hg3 hput hget
          cases b
          all_goals
            simp only [if_true, if_false, Bool.false_eq_true] at htake
            go_wp2_with (first
              | (go_at_call 28; refine htake.mono ?_; rintro e w5 ⟨rfl, hN5, hc5⟩; rw [← HW0.out] at hc5; have hbx5 := hbx.chg hc5 (by simp; omega); have cx1 := hbx5.at 1 rfl; have cx2 := hbx5.at 2 rfl; have hI5 := map_chg HI0.out hc5 (by simpa using hbeg); have hgb := map_ne hI5 hN5; have hB5 := below_chg HB0.out hc5 hW0z (by simp; omega); have hz5 := hB5.size; have HN5 := Lib.hid hN5; have HI5 := Lib.hid hI5; have HB5 := Lib.hid hB5; have hcx := hc5; clear hN5 hI5 hB5)
              | (at_lookup; refine wpList_lookup_own_ok_int _ rfl _ _ 34 rfl 9 3 .i64 keyed9 Try.underlying34 Try.underlying3 (zero3 _) be nn D rfl HI5.out _ _ rfl HKEY.out ?_; intro cc hat hwc; obtain rfl : o1 = cc := HG3.out cc hat; rw [HG2.out]; clear hat hwc)
              | (at_delete; refine wpList_delete_own _ rfl _ _ 34 9 rfl 3 keyed9 Try.underlying34 _ be nn D rfl HI5.out _ _ rfl HKEY.out ?_; intro w6 hown6 hturn6))
            have hc6 := chg_map hturn6.grown
            go_meet
            exact ⟨nn, N', _, by omega, HTOK.out, by omega, HM'.out, HN5.out.chg hc6 (by simpa using Ne.symm hgb), hown6, below_chg HB5.out hc6 hz5 (by simp; omega)⟩
      case rest =>
        clear hput htake hget
        obtain ⟨nn', N', D', hn', hok', hi', hM', hN', hI', hB'⟩ := hcut
        have hkb := keys15 hok'
        have hsz := size_keys hM'
        have hu : N'.x % 16 = (keysM N').length := by rw [keysM_len]; rfl
        have hck : chkE N'.x = 0 := by unfold chkE; exact if_pos hok'.ok
        have hC := fun W => check_any W N'.x hok'.lt
        rw [hck] at hC
        have hxl := hok'.lt
        have hz' := hB'.size
        have hKL := fun k h1 h2 => keys_lt hok' (k := k) h1 h2
        have HKL := Lib.hid hKL
        have HOK' := Lib.hid hok'
        have HM' := Lib.hid hM'
        have HSZ := Lib.hid hsz
        have HN' := Lib.hid hN'
        have HI' := Lib.hid hI'
        have HB' := Lib.hid hB'
        clear hck hKL hok' hM' hsz hN' hI' hB'
        go_upto_block 3 with (first
          | (go_at_call 29; refine (keys_any _ g N' HOK'.out HN'.out).mono ?_; rintro e w6 ⟨a6, k6, rfl, hO6, b6⟩; have hN6 := HN'.out.below b6 HN'.out.lt; have hI6 := map_chg HI'.out (Chg.of_below b6 []) (by simp); have hB6 := HB'.out.trans (b6.mono hz'); have HN6 := Lib.hid hN6; have HI6 := Lib.hid hI6; have HB6 := Lib.hid hB6; have HO6 := Lib.hid hO6; clear hN6 hI6 hB6 hO6)
          | (go_at_call 30; refine (order_any _ g N' HN6.out).mono ?_; rintro e w7 ⟨rfl, rfl⟩)
          | (go_at_call 21; refine (hC _).mono ?_; rintro e w8 ⟨rfl, b8⟩)
          | (at_len; refine wpList_len_own _ rfl _ 34 rfl 9 3 Try.underlying34 _ be nn' D' rfl HI6.out ?_; rw [HSZ.out]))
        have HN8 := Lib.hid (HN6.out.below b8 HN6.out.lt)
        have HI8 := Lib.hid (map_chg HI6.out (Chg.of_below b8 []) (by simp))
        have HB8 := Lib.hid (HB6.out.trans (b8.mono HB6.out.size))
        have hR : RdS w8 w8.heap.size a6 (keysM N') := (HO6.out.below b8).rd
        have HR := Lib.hid hR
        clear hR hu hxl hC hz' b8
        go_wp2_with fail
        go_loopg [19] ((keysM N').length - 1) (fun gn i wr2 => ∃ (k q : Nat), 1 ≤ k ∧ k ≤ 16 ∧ i = .int .i64 k ∧ gn = (keysM N').length - k ∧ wr2 = w8.drewN q)
        case atStart => exact ⟨1, 0, Nat.le_refl _, by omega, rfl, rfl, rfl⟩
        case round =>
          obtain ⟨k, q, hk1, hk2, rfl, rfl, rfl⟩ := hrel
          by_cases hkl : k < (keysM N').length
          · obtain ⟨b1, o1, e1, hb1, r1⟩ := HR.out (k - 1) (by omega)
            obtain ⟨b2, o2, e2, _, r2⟩ := HR.out k hkl
            have hlt := HKL.out k hk1 hkl
            rw [e1] at e2
            simp only [Option.some.injEq, Addr.mk.injEq, and_true] at e2
            obtain ⟨rfl, rfl⟩ := e2
            subst e1
            generalize (keysM N').getD (k - 1) emp = x at r1 hlt
            generalize (keysM N').getD k emp = y at r2 hlt
            have hbl : Op.bytesLess x.toList y.toList = true := hlt
            have hwr : IntKind.i64.wrap ((k : Int) - 1) = ((k - 1 : Nat) : Int) := by rw [IntKind.wrap_i64]; omega
            clear hlt
            go_upto_region 30 with fail
            go_quiet (fail)
            go_wp2_with fail
            go_roundg ((keysM N').length - (k + 1))
            case rel => exact ⟨k + 1, _, by omega, by omega, by go_num, rfl, rfl⟩
            case measure => omega
          · go_wp2_with fail
            go_roundg (an - (t + 1))
            case rel => exact ⟨t + 1, nn', N', D', by omega, by omega, by go_num, rfl, hn', HOK'.out, hi', HM'.out, HN8.out.drewN q, map_chg HI8.out ((Chg.refl [] w8).drewN q) (by simp), below_drewN HB8.out q⟩
            case measure => omega
    · have hcase : (((t : Int) < (an : Int)) ∧ ¬ ((t : Int) < 200)) ∨ ¬ ((t : Int) < (an : Int)) := by omega
      have HBF := Lib.hid hB
      clear hN hI hB hok hM
      rcases hcase with ⟨hc1, hc2⟩ | hc1
      all_goals
        go_wp2_with fail
        go_ret
        exact ⟨rfl, HBF.out⟩

end Go.Proofs.Ythplnecnagbedaa
