/- The law TreeOrder by contract: two trees filled in two orders hold the same; conditions: both rows read. -/
import Derived.Test.YthplnecnagbedaaTrPair
import Derived.Deep.DeepCutAuto
import Derived.Deep.CutBlock
import Derived.Deep.QuietTactic
import Derived.BigQuiet
import Derived.IntWalk
namespace Go.Proofs.Ythplnecnagbedaa
open Go.RowKit Go.Maps Go.WideMaps

theorem chg_mapO {w w' : World} {b : Nat} (hg : w.grownBy w' (some b)) : Chg [b] w w' := Chg.of_grown hg (fun g hg => by injection hg with hg; subst hg; exact .inl (by simp))
theorem PairT.apart_map {B1 B2 n1 n2 b : Nat} {w w' : World} {M1 M2 : TrM} {T1 T2 : Tr} {nn : Nat} {D : DataW Unit} (h : PairT B1 B2 w M1 T1 n1 M2 T2 n2) (hI : MapIs w b nn D) (hc : Chg [b] w w') : PairT B1 B2 w' M1 T1 n1 M2 T2 n2 :=
  ⟨h.one.chg hc (fun q hq => by
    obtain ⟨_, _, hb, _⟩ := h.one.tree.kind hq
    simpa using (map_ne hI hb).symm), h.two.chg hc (fun q hq => by
    obtain ⟨_, _, hb, _⟩ := h.two.tree.kind hq
    simpa using (map_ne hI hb).symm), h.apart⟩

theorem mem_getD {N : List ByteArray} {j : Nat} (h : j < N.length) : N.getD j emp ∈ N := by
  have e : N.getD j emp = N[j] := by simp [List.getD, h]
  rw [e]
  exact List.getElem_mem h
theorem wf_o {t : Nat} (h : t < 1000) : (Lit.int .i64 (t : Int)).wf = true := by
  show (decide (IntKind.i64.min ≤ (t : Int)) && decide ((t : Int) ≤ IntKind.i64.max)) = true
  rw [show IntKind.i64.min = -9223372036854775808 from rfl, show IntKind.i64.max = 9223372036854775807 from rfl]
  simp only [Bool.and_eq_true, decide_eq_true_eq]
  omega

set_option maxRecDepth 100000 in
set_option maxHeartbeats 4000000 in
theorem treeOrder_any (w : World) (aN : Option Addr) (nN cN : Nat) (NA : List ByteArray) (hN : NA.length = nN) (hl1 : nN ≤ 9223372036854775807) (rN : RdS w w.heap.size aN NA) (zN : ∀ k, k < NA.length → (NA.getD k emp).size ≤ maxLen)
    (aM : Option Addr) (nM cM : Nat) (NB : List ByteArray) (hM : NB.length = nM) (hl2 : nM ≤ 9223372036854775807) (rM : RdS w w.heap.size aM NB) (zM : ∀ k, k < NB.length → (NB.getD k emp).size ≤ maxLen) :
    Calls Try.prog 11 #[.slice aN nN cN, .slice aM nM cM] w fun e w' => e = .returned (.bool true) ∧ Below w.heap.size w w' := by
  obtain ⟨n0, hn0, hn1, hmin⟩ : ∃ n0 : Nat, n0 ≤ nN ∧ n0 ≤ 150 ∧ (if (150 : Int) < (nN : Int) then (150 : Int) else (nN : Int)) = (n0 : Int) := by
    rcases Nat.lt_or_ge 150 nN with h | h
    · exact ⟨150, by omega, by omega, by rw [if_pos (by omega)]; rfl⟩
    · exact ⟨nN, by omega, by omega, by rw [if_neg (by omega)]⟩
  have hmn : ∀ ats ty W, (Builtin.min_ ats ty #[.int .i64 (nN : Int), .int .i64 150]).run Try.prog W = .ok (.int .i64 (n0 : Int)) W := fun _ _ W => by
    show Result.ok (Value.int .i64 (if (150 : Int) < (nN : Int) then (150 : Int) else (nN : Int))) W = _
    rw [hmin]
  obtain ⟨m0, hm0, hm1, hm2⟩ : ∃ m0 : Nat, m0 ≤ nM ∧ m0 ≤ 100 ∧ ((m0 = nM ∧ nM ≤ 100) ∨ (m0 = 100 ∧ 100 < nM)) := by
    rcases Nat.lt_or_ge 100 nM with h | h
    · exact ⟨100, by omega, by omega, .inr ⟨rfl, h⟩⟩
    · exact ⟨nM, by omega, by omega, .inl ⟨rfl, h⟩⟩
  obtain ⟨N, hNe⟩ : ∃ N, N = NB.take m0 := ⟨_, rfl⟩
  have hNl : N.length = m0 := by rw [hNe, List.length_take]; omega
  have hNg : ∀ j, j < m0 → N.getD j emp = NB.getD j emp := fun j hj => by
    rw [hNe]
    simp [List.getD, hj]
  have hNz : ∀ j, j < m0 → (N.getD j emp).size ≤ maxLen := fun j hj => by rw [hNg j hj]; exact zM j (by omega)
  have hNr : ∀ j, j < m0 → ∃ b off, aM = some ⟨b, off, none⟩ ∧ b < w.heap.size ∧ w.cell? ⟨b, off + j, none⟩ = some (.string (N.getD j emp)) := fun j hj => by rw [hNg j hj]; exact rM j (by omega)
  have HN := Lib.hid hN
  have RN := Lib.hid rN
  have ZN := Lib.hid zN
  have NL := Lib.hid hNl
  have NZ := Lib.hid hNz
  have NR := Lib.hid hNr
  clear hN hM rN rM zN zM hNl hNg hNz hNr hNe hmin
  have hmm := @run_makeMap Try.prog
  go_enter Try.func11, Try.ntmps11
  go_upto_region 3 with (go_at_call 41; refine (treeWorks_any _).mono ?_; rintro e w1 ⟨rfl, b1⟩)
  go_upto_region 6 with (first
    | (go_at_call 40; have h2 := hS1; refine (new_ts _).mono ?_; rintro e w3 ⟨M2, T2, rfl, hS2, he2, b3⟩)
    | (go_at_call 40; refine (new_ts _).mono ?_; rintro e w2 ⟨M1, T1, rfl, hS1, he1, b2⟩))
  have hP0 := PairT.new hS1 b3 hS2
  have hB3 : Below w.heap.size w w3 := (b1.trans (b2.mono b1.size)).trans (b3.mono (Nat.le_trans b1.size b2.size))
  have hw1 : w.heap.size ≤ w1.heap.size := b1.size
  have hw2 : w.heap.size ≤ w2.heap.size := Nat.le_trans hw1 b2.size
  have hbe : w.heap.size ≤ w3.heap.size := hB3.size
  obtain ⟨tb1, ht1⟩ : ∃ tb1, M1.tb = tb1 := ⟨_, rfl⟩
  obtain ⟨tb2, ht2⟩ : ∃ tb2, M2.tb = tb2 := ⟨_, rfl⟩
  have hO : OrdM w1.heap.size w2.heap.size tb1 tb2 0 0 [] [] w3.heap.size 0 [] (w3.alloc (.map #[] 0)) :=
    ⟨M1, T1, M2, T2, .map [], hP0.below ((Below.refl _ w3).alloc (Nat.le_refl _) _), ht1, ht2, he1, he2, mapE_nil, World.ownsMap_made (H := Unit) w3 Try.prog 9 (plainElem Try.prog 3)⟩
  rw [ht1, ht2]
  have HO := Lib.hid hO
  have HB := Lib.hid (hB3.alloc hB3.size (.map #[] 0))
  clear hS1 hS2 he1 he2 hP0 hO hB3 b1 b2 b3 ht1 ht2
  generalize w1.heap.size = B1 at *
  generalize w2.heap.size = B2 at *
  go_wp2_with fail
  generalize w3.heap.size = be at *
  go_loopg [38] n0 (fun gn i wr => ∃ (t nn : Nat) (X E : List Ent), t ≤ n0 ∧ i = .int .i64 t ∧ gn = n0 - t ∧ nn ≤ t ∧ OrdM B1 B2 tb1 tb2 t 0 E [] be nn X wr ∧ Ord1 X E NA t ∧ Below w.heap.size w wr)
  case atStart => exact ⟨0, 0, [], [], Nat.zero_le _, rfl, rfl, Nat.le_refl _, HO.out, ord1_nil NA, HB.out⟩
  case round =>
    clear HO HB
    obtain ⟨t, nn, X, E, ht, rfl, rfl, hnn, hO, h1, hB⟩ := hrel
    by_cases hgo : t < n0
    · obtain ⟨ba, oa, e1, hba, ck⟩ := (RN.out.below hB) t (by rw [HN.out]; omega)
      subst e1
      have hz := ZN.out t (by rw [HN.out]; omega)
      have h1s := h1.put hO.sort1 (by omega) (t : Int)
      obtain ⟨k, hk⟩ : ∃ k, k = NA.getD t emp := ⟨_, rfl⟩
      rw [← hk] at ck hz h1s
      have HKEY : Hid (keyOf Try.prog 9 (.string k) = some (litK k)) := Lib.hid (keyOf_string_mk Try.underlying9 hz)
      have HWV : Hid ((Lit.int .i64 (t : Int)).wf = true) := Lib.hid (wf_o (by omega))
      obtain ⟨M1, T1, M2, T2, D, hP, f1, f2, f3, f4, hD, hI⟩ := hO
      have hti : (t : Int) < (n0 : Int) := by omega
      have htn : (t : Int) < (nN : Int) := by omega
      have HP := Lib.hid hP
      have HD := Lib.hid hD
      have HI := Lib.hid hI
      have HB := Lib.hid hB
      have H1 := Lib.hid h1
      have H1S := Lib.hid h1s
      have hbz := hB.size
      clear hP hD hI hB h1 h1s hk hz
      go_wp2_with (first
        | (at_mapUpdate; refine wpList_mapUpdate_own _ rfl _ _ _ 34 rfl 9 3 keyed9 Try.underlying34 _ be nn D rfl HI.out (by unfold maxLen; omega) _ _ _ rfl rfl HKEY.out _ [] (plainElem_int Try.underlying3 HWV.out) ?_; intro w6 hown6 hgrow6; have hc6 := chg_mapO hgrow6; have hO6 : OrdM B1 B2 tb1 tb2 t 0 E [] be _ (putE X k (t : Int)) w6 := ⟨M1, T1, M2, T2, _, HP.out.apart_map HI.out hc6, f1, f2, f3, f4, HD.out.put H1.out.sx k _, hown6⟩; have hp := hO6.put1 (by omega) k (t : Int); have ck6 := (hc6.below (by omega) (by simp; omega)).cell (p := ⟨ba, _, none⟩) hba |>.trans ck)
        | (go_at_call 43; refine hp.mono ?_; rintro e w7 ⟨r0, r1, r2, rfl, hO7, b7⟩))
      go_roundg (n0 - (t + 1))
      case rel => exact ⟨t + 1, nn + 1, _, _, by omega, by go_num, rfl, by omega, hO7, H1S.out, (below_chg HB.out hc6 hbz (by simp; omega)).trans (b7.mono hw1)⟩
      case measure => omega
    · obtain rfl : t = n0 := by omega
      have HO := Lib.hid hO
      have HB := Lib.hid hB
      have H1 := Lib.hid h1
      clear hO hB h1
      rcases hm2 with ⟨q1, q2⟩ | ⟨q1, q2⟩
      all_goals
        go_wp2_with fail
        go_loopg [10] m0 (fun gn i wx => ∃ (j : Nat) (E2 : List Ent), j ≤ m0 ∧ i = .int .i64 j ∧ gn = m0 - j ∧ OrdM B1 B2 tb1 tb2 t j E E2 be nn X wx ∧ Ord2 E2 N j ∧ Below w.heap.size w wx)
        case atStart => exact ⟨0, [], Nat.zero_le _, rfl, rfl, HO.out, ord2_nil N, HB.out⟩
        case round =>
          clear HO HB
          obtain ⟨j, E2, hj, rfl, rfl, hO, h2, hB⟩ := hrel
          by_cases hjm : j < m0
          · obtain ⟨ba, oa, e1, hba, ck0⟩ := NR.out j hjm
            subst e1
            have ck := (hB.cell (p := ⟨ba, _, none⟩) hba).trans ck0
            have h2s := h2.put hO.sort2 (by omega) (k := N.getD j emp) (mem_getD (by rw [NL.out]; exact hjm)) (-1)
            have hp := hO.put2 (by omega) (N.getD j emp) (-1)
            generalize N.getD j emp = k at ck h2s hp
            have hj1 : (j : Int) < (nM : Int) := by omega
            have hj2 : (j : Int) < 100 := by omega
            have HB := Lib.hid hB
            have H2S := Lib.hid h2s
            clear hO h2 hB h2s ck0
            go_wp2_with (go_at_call 43; refine hp.mono ?_; rintro e w7 ⟨r0, r1, r2, rfl, hO7, b7⟩)
            go_roundg (m0 - (j + 1))
            case rel => exact ⟨j + 1, _, by omega, by go_num, rfl, hO7, H2S.out, HB.out.trans (b7.mono hw2)⟩
            case measure => omega
          · have hjm2 : j = m0 := by omega
            have HO2 := Lib.hid hO
            have HB2 := Lib.hid hB
            have H2 := Lib.hid h2
            clear hO hB h2
            first
            | (have hj1 : ¬ ((j : Int) < (nM : Int)) := by omega
               go_wp2_with fail)
            | (have hj1 : (j : Int) < (nM : Int) := by omega
               have hj2 : ¬ ((j : Int) < 100) := by omega
               go_wp2_with fail)
            go_loopg [11] (t - (t - t)) (fun gn i wy => ∃ (r : Nat) (E3 : List Ent), r ≤ t ∧ i = .int .i64 ((r : Int) - 1) ∧ gn = t - (t - r) ∧ OrdM B1 B2 tb1 tb2 t (j + (t - r)) E E3 be nn X wy ∧ Ord3 X E3 NA N r t j ∧ Below w.heap.size w wy)
            case atStart => exact ⟨t, E2, Nat.le_refl _, rfl, rfl, by rw [Nat.sub_self]; exact HO2.out, H2.out.to X NA t, HB2.out⟩
            case round =>
              clear HO2 HB2 H2
              obtain ⟨r, E3, hr, rfl, rfl, hO, h3, hB⟩ := hrel
              by_cases hr0 : 0 < r
              · obtain ⟨s, rfl⟩ : ∃ s, r = s + 1 := ⟨r - 1, by omega⟩
                have hs1 : ((s + 1 : Nat) : Int) - 1 = (s : Int) := by omega
                rw [hs1]
                obtain ⟨ba, oa, e1, hba, ck⟩ := (RN.out.below hB) s (by rw [HN.out]; omega)
                subst e1
                have hz := ZN.out s (by rw [HN.out]; omega)
                obtain ⟨u, hu⟩ := H1.out.has s (by omega)
                have h3s := h3.put (by omega) H1.out.sx hO.sort2 (by omega) hu
                have hget : getE X (NA.getD s emp) = some u := (get_iff H1.out.sx).2 hu
                have hOd := hO.below (Below.refl _ wr).drew
                have hp := hOd.put2 (by omega) (NA.getD s emp) u
                obtain ⟨M1, T1, M2, T2, D, hP, f1, f2, f3, f4, hD, hI⟩ := hOd
                generalize NA.getD s emp = k at ck hz h3s hget hp
                have hkey : keyOf Try.prog 9 (.string k) = some (litK k) := keyOf_string_mk Try.underlying9 hz
                obtain ⟨c, hrun, hat, _⟩ := hI.lookup_int keyed9 Try.underlying34 Try.underlying3 (zero3 _) hkey
                have hcu : c = u := lit_inj (hat.symm.trans (hD.val k u hget _))
                subst hcu
                have hsi : (0 : Int) ≤ (s : Int) := by omega
                have hsn : (s : Int) < (nN : Int) := by omega
                have HB := Lib.hid hB
                have H3S := Lib.hid h3s
                have hbz := hB.size
                clear hO h3 hB h3s hP hD hI hat hkey hget hu hz hs1
                go_upto_region 21 with fail
                go_region_with (go_at_call 43; refine hp.mono ?_; rintro e w7 ⟨r0, r1, r2, rfl, hO7, b7⟩)
                all_goals
                  go_wp2_with fail
                  go_roundg (t - (t - s))
                  case rel => exact ⟨s, _, by omega, by go_num, rfl, by rw [show j + (t - s) = j + (t - (s + 1)) + 1 from by omega]; exact hO7, H3S.out, (HB.out.drew).trans (b7.mono hw2)⟩
                  case measure => omega
              · obtain rfl : r = 0 := by omega
                have HO3 := Lib.hid hO
                have HB3 := Lib.hid hB
                have H3 := Lib.hid h3
                clear hO hB h3
                have H40 : Hid (Ord4 X E3 N 0) := Lib.hid (H3.out.to H1.out (by omega))
                clear H3
                go_wp2_with fail
                go_loopg [12] m0 (fun gn i wy => ∃ (l : Nat) (E4 : List Ent), l ≤ m0 ∧ i = .int .i64 l ∧ gn = m0 - l ∧ OrdM B1 B2 tb1 tb2 t (j + t + l) E E4 be nn X wy ∧ Ord4 X E4 N l ∧ Below w.heap.size w wy)
                case atStart => exact ⟨0, E3, Nat.zero_le _, rfl, rfl, HO3.out, H40.out, HB3.out⟩
                case round =>
                  clear HO3 HB3 H40
                  obtain ⟨l, E4, hl, rfl, rfl, hO, h4, hB⟩ := hrel
                  by_cases hlm : l < m0
                  · obtain ⟨ba, oa, e1, hba, ck0⟩ := NR.out l hlm
                    subst e1
                    have ck := (hB.cell (p := ⟨ba, _, none⟩) hba).trans ck0
                    have hz := NZ.out l hlm
                    have hs4 := hO.sort2
                    have hkl : l < N.length := by rw [NL.out]; exact hlm
                    have htk := hO.take2 (by omega) (N.getD l emp)
                    have hj1 : (l : Int) < (nM : Int) := by omega
                    have hj2 : (l : Int) < 100 := by omega
                    have hl0 : (0 : Int) ≤ (l : Int) := by omega
                    have h4t := fun h => h4.take hs4 H1.out.sx hkl h
                    have h4k := fun h => h4.skip hs4 hkl h H1.out.sx
                    have hOm := hO.mono2 (m := j + t + (l + 1)) (by omega)
                    obtain ⟨M1, T1, M2, T2, D, hP, f1, f2, f3, f4, hD, hI⟩ := hO
                    have hbz := hB.size
                    generalize N.getD l emp = k at ck hz htk h4t h4k
                    have HKEY : Hid (keyOf Try.prog 9 (.string k) = some (litK k)) := Lib.hid (keyOf_string_mk Try.underlying9 hz)
                    have HX := Lib.hid (hD.has k)
                    have HI := Lib.hid hI
                    have HB := Lib.hid hB
                    have HOM := Lib.hid hOm
                    clear hP hD hI hB hz hOm h4 hs4 ck0
                    cases hx : hasE X k
                    · have H4S := Lib.hid (h4t hx)
                      have HXF : Hid (Maps.has D (litK k) = false) := Lib.hid (HX.out.trans hx)
                      clear h4t h4k hx HX HOM
                      go_wp2_with (first
                        | (at_lookup; refine wpList_lookup_own_ok_int _ rfl _ _ 34 rfl 9 3 .i64 keyed9 Try.underlying34 Try.underlying3 (zero3 _) be nn D rfl HI.out _ _ rfl HKEY.out ?_; intro cc hat hwc; rw [HXF.out]; clear hat hwc)
                        | (go_at_call 46; refine htk.mono ?_; rintro e w7 ⟨r0, r1, rfl, hO7, b7⟩))
                      go_roundg (m0 - (l + 1))
                      case rel => exact ⟨l + 1, _, by omega, by go_num, rfl, hO7, H4S.out, HB.out.trans (b7.mono hw2)⟩
                      case measure => omega
                    · have H4S := Lib.hid (h4k hx)
                      have HXF : Hid (Maps.has D (litK k) = true) := Lib.hid (HX.out.trans hx)
                      clear h4t h4k hx HX htk
                      go_wp2_with (at_lookup; refine wpList_lookup_own_ok_int _ rfl _ _ 34 rfl 9 3 .i64 keyed9 Try.underlying34 Try.underlying3 (zero3 _) be nn D rfl HI.out _ _ rfl HKEY.out ?_; intro cc hat hwc; rw [HXF.out]; clear hat hwc)
                      go_roundg (m0 - (l + 1))
                      case rel => exact ⟨l + 1, _, by omega, by go_num, rfl, HOM.out, H4S.out, HB.out⟩
                      case measure => omega
                  · have hlm2 : l = m0 := by omega
                    have h4' : Ord4 X E4 N N.length := by rw [NL.out, ← hlm2]; exact h4
                    have he := h4'.same hO.sort2 H1.out hO.sort1
                    subst he
                    obtain ⟨M1, T1, M2, T2, D, hP, f1, f2, f3, f4, hD, hI⟩ := hO
                    have hs1 := scan_ts hP.one (by omega) ⟨#[]⟩ ⟨#[]⟩ 4096 (by omega) (by omega)
                    have hs2 := fun W hW => scan_ts (hP.two.below (w' := W) hW) (by omega) ⟨#[]⟩ ⟨#[]⟩ 4096 (by omega) (by omega)
                    have hn1 := fun W hW => len_ts (hP.one.below (w' := W) hW)
                    have hn2 := fun W hW => len_ts (hP.two.below (w' := W) hW)
                    have hA1 := scanT_A (fr := ⟨#[]⟩) (tk := ⟨#[]⟩) (most := 4096) hP.one.ok
                    have hA2 := scanT_A (fr := ⟨#[]⟩) (tk := ⟨#[]⟩) (most := 4096) hP.two.ok
                    rw [f1] at hs1 hn1
                    rw [f2] at hs2 hn2
                    rw [f3] at hn1 hA1
                    rw [f4] at hn2 hA2
                    generalize scanT T1 ⟨#[]⟩ ⟨#[]⟩ 4096 = st1 at hs1 hA1
                    generalize scanT T2 ⟨#[]⟩ ⟨#[]⟩ 4096 = st2 at hs2 hA2
                    obtain ⟨R, S1⟩ := st1
                    obtain ⟨R2, S2⟩ := st2
                    dsimp only at hA1 hA2
                    rw [← hA1] at hA2
                    subst hA2
                    clear hA1 hP hD hI h4 h4'
                    have HS2 := Lib.hid hs2
                    have HN1 := Lib.hid hn1
                    have HN2 := Lib.hid hn2
                    have HBF := Lib.hid hB
                    have hbz := hB.size
                    clear hs2 hn1 hn2 hB
                    first
                    | (have hj1 : ¬ ((l : Int) < (nM : Int)) := by omega
                       go_upto_region 28 with fail)
                    | (have hj1 : (l : Int) < (nM : Int) := by omega
                       have hj2 : ¬ ((l : Int) < 100) := by omega
                       go_upto_region 28 with fail)
                    go_wp2_with (first
                      | (go_at_call 45; have h0 := hone; refine (HN2.out _ (below_drewN b8 (q + q2))).mono ?_; rintro e w9 ⟨rfl, rfl⟩)
                      | (go_at_call 45; refine (HN1.out _ (below_drewN b8 (q + q2))).mono ?_; rintro e w9 ⟨rfl, rfl⟩; have hone := Lib.hid b8)
                      | (go_at_call 50; have hsi2 := hsi q; simp only [decide_true] at hsi2; refine hsi2.mono ?_; rintro e w8 ⟨rfl, q2, rfl⟩)
                      | (go_at_call 32; refine hst.mono ?_; rintro e w8 ⟨rfl, q, rfl⟩)
                      | (go_at_call 47; have h0 := b6; refine (HS2.out _ b6).mono ?_; rintro e w7 ⟨f8, k8, f9, k9, f10, k10, rfl, f8o, f9o, f10o, b7⟩; have b8 := b6.trans (b7.mono b6.size); have hk7 := own_chg d8o (Chg.of_below b7 []) (by simp); have hv7 := own_chg d9o (Chg.of_below b7 []) (by simp); have hst := sameTexts_any w7 d8 f8 _ _ e8 k8 (R2.map (·.1)) (R2.map (·.1)) (List.length_map _) (List.length_map _) ⟨own_max d8o, own_max f8o⟩ (own_keys hk7) (own_keys f8o); rw [decide_eq_true rfl] at hst; have hsi := fun q => sameInts_any (w7.drewN q) d9 f9 _ _ e9 k9 (R2.map (·.2)) (R2.map (·.2)) (List.length_map _) (List.length_map _) ⟨own_max d9o, own_max f9o⟩ (own_vals (own_chg hv7 ((Chg.refl [] w7).drewN q) (by simp))) (own_vals (own_chg f9o ((Chg.refl [] w7).drewN q) (by simp))))
                      | (go_at_call 47; refine hs1.mono ?_; rintro e w6 ⟨d8, e8, d9, e9, d10, e10, rfl, d8o, d9o, d10o, b6⟩))
                    go_ret
                    refine ⟨?_, HBF.out.trans ((below_drewN b8 (q + q2)).mono hbz)⟩
                    first
                    | rfl
                    | simp

end Go.Proofs.Ythplnecnagbedaa
