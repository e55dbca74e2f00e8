/- Empty, Insert and Remove of the document's package for nodes, each by its contract; conditions: a word is below 2 to the 64. -/
import Derived.Test.YthplnecnagbedaaNtRef2
import Derived.Test.YthplnecnagbedaaNtMvPure
namespace Go.Proofs.Ythplnecnagbedaa
open Go.RowKit

theorem slots_empty : ∀ j, j < 15 → (slotsL 17134975606245761280).take (j + 1) = (slotsL 17134975606245761280).take j ++ [j] := by decide

set_option maxRecDepth 100000 in
set_option maxHeartbeats 1000000 in
theorem rempty_any (w : World) : Calls Try.prog 20 #[] w fun e w' => e = .returned (.int .u64 17134975606245761280) ∧ Below w.heap.size w w' := by
  have hl := slots_len 17134975606245761280
  have hwp := word_parts 17134975606245761280 (by omega)
  rw [show (17134975606245761280 : Nat) % 16 = 0 from rfl] at hwp
  have hW := fun W v h => rword_any W w.heap.size 0 (slotsL 17134975606245761280) hl (by omega) (digs_lt 15 _) v h
  rw [hwp] at hW
  have hst := Lib.hid slots_empty
  clear hwp
  generalize slotsL 17134975606245761280 = l at hl hW hst
  go_enter Try.func20, Try.ntmps20
  go_wp2
  go_loopg [1, 2] 15 (fun gn v i wr => ∃ (j : Nat), j ≤ 15 ∧ i = .int .i64 j ∧ gn = 15 - j ∧ OwnN w.heap.size wr v (l.take j) ∧ Below w.heap.size w wr)
  case atStart => exact ⟨0, by omega, rfl, rfl, own_nil _ _, Below.refl _ _⟩
  case round =>
    obtain ⟨j, hj, rfl, rfl, hO, hb⟩ := hrel
    by_cases h15 : j < 15
    · have hlen : (l.take j).length = j := by simp [hl]; omega
      have hs := Lib.hid (hst.out j h15)
      have hz := hb.size
      obtain ⟨A, cap, rfl, hcap⟩ := hO.nilv
      rw [hlen] at hcap hO ⊢
      have HO := Lib.hid hO
      clear hO
      go_wp2_with (at_builtin; refine wpList_appN rfl (.tmp 7) (.tmp 9) rfl w.heap.size _ (l.take j) rfl (HO.out.alloc _) [j] ⟨wr.heap.size, 0, none⟩ 1 1 rfl rfl (news_one _ _) (by rw [hlen]; simp; omega) (by simp; omega) ?_)
      intro v2 w2 hO2 _ hb2
      go_wp2_with fail
      go_roundg (15 - (j + 1))
      case rel => exact ⟨j + 1, by omega, by go_num, rfl, by rw [hs.out]; exact hO2, (hb.alloc hz _).trans hb2⟩
      case measure => omega
    · obtain rfl : j = 15 := by omega
      rw [List.take_of_length_le (by omega)] at hO
      go_wp2_with (go_at_call 57; refine (hW _ _ hO).mono ?_; rintro e w2 ⟨rfl, rfl⟩)
      go_ret
      exact ⟨rfl, hb⟩

theorem ownN_cells {B : Nat} {w : World} {g n cap : Nat} {l : List Nat} (h : OwnN B w (.slice (some ⟨g, 0, none⟩) n cap) l) {j x : Nat} (hj : l[j]? = some x) : w.cell? ⟨g, j, none⟩ = some (.int .i64 x) := by
  obtain ⟨g', cap', e1, _, _, _, c1⟩ := h.at hj
  injection e1 with e1 _ _
  injection e1 with e1
  injection e1 with e1 _ _
  subst e1
  exact c1
theorem own_cut {B : Nat} {w : World} {g n cap : Nat} {l : List Nat} (h : OwnN B w (.slice (some ⟨g, 0, none⟩) n cap) l) (o m : Nat) : ∀ j u, (pvl ((l.drop o).take m))[j]? = some u → w.cell? ((⟨g, o, none⟩ : Addr).add j) = some u := fun j u hj => by
  simp only [pvl, List.getElem?_map, Option.map_eq_some_iff, List.getElem?_take, List.getElem?_drop] at hj
  obtain ⟨x, hx, rfl⟩ := hj
  rw [Addr.add_mid]
  split at hx
  · exact ownN_cells h hx
  · cases hx

theorem ins_list (l : List Nat) (u k : Nat) (h : k ≤ u) (hu : u < l.length) : ((([] ++ (l.drop 0).take k) ++ [l.getD u 0]) ++ (l.drop k).take (u - k)) ++ (l.drop (u + 1)).take (l.length - (u + 1)) = mvL l u k := by
  unfold mvL
  rw [if_neg (by omega), List.take_of_length_le (l := l.drop (u + 1)) (by rw [List.length_drop]; exact Nat.le_refl _)]
  simp
theorem rem_list (l : List Nat) (u k : Nat) (h : k < u) (hu : u ≤ l.length) : ((([] ++ (l.drop 0).take k) ++ (l.drop (k + 1)).take (u - (k + 1))) ++ [l.getD k 0]) ++ (l.drop u).take (l.length - u) = mvL l k (u - 1) := by
  unfold mvL
  rw [List.take_of_length_le (l := l.drop u) (by rw [List.length_drop]; exact Nat.le_refl _)]
  by_cases hk : k < u - 1
  · rw [if_pos hk, show u - 1 - k = u - (k + 1) by omega, show u - 1 + 1 = u by omega]
    simp
  · obtain rfl : u = k + 1 := by omega
    rw [if_neg hk]
    simp

set_option maxRecDepth 100000 in
set_option maxHeartbeats 2000000 in
theorem rinsert_any (w : World) (x : Nat) (hx : x < 18446744073709551616) (p : Int) : Calls Try.prog 16 #[.int .u64 x, .int .i64 p] w fun e w' => e = .returned (res3 (insOut x p)) ∧ Below w.heap.size w w' := by
  have hC := rcheck_any w x hx
  have hA := fun W => parts_any W x hx
  have hl := slots_len x
  have hu : x % 16 < 16 := Nat.mod_lt _ (by omega)
  have hout : insOut x p = if OkL (slotsL x) then if x % 16 = 15 then (0, 0, 120) else if p < 0 ∨ ((x % 16 : Nat) : Int) < p then (0, 0, 1) else (wordL (x % 16 + 1) (mvL (slotsL x) (x % 16) p.toNat), (slotsL x).getD (x % 16) 0, 0) else (0, 0, 4) := rfl
  unfold chkE at hC
  generalize insOut x p = out at hout ⊢
  generalize slotsL x = l at hC hA hl hout
  generalize x % 16 = u at hA hu hout
  by_cases hok : OkL l
  · rw [if_pos hok] at hC hout
    by_cases h15 : u = 15
    · rw [if_pos h15] at hout
      subst hout
      have h15' : ((u : Int) == 15) = true := by simp; omega
      clear h15
      go_enter Try.func16, Try.ntmps16
      go_wp2_with (first
        | (go_at_call 56; refine (hA _).mono ?_; rintro e w2 ⟨v, rfl, hO, b2⟩)
        | (go_at_call 22; refine hC.mono ?_; rintro e w1 ⟨rfl, b1⟩))
      go_ret3
      exact ⟨rfl, b1.trans (b2.mono b1.size)⟩
    · rw [if_neg h15] at hout
      have h15' : ((u : Int) == 15) = false := by simp; omega
      by_cases hp : p < 0 ∨ (u : Int) < p
      · rw [if_pos hp] at hout
        subst hout
        go_enter Try.func16, Try.ntmps16
        go_upto_region 7 with (first
          | (go_at_call 56; refine (hA _).mono ?_; rintro e w2 ⟨v, rfl, hO, b2⟩)
          | (go_at_call 22; refine hC.mono ?_; rintro e w1 ⟨rfl, b1⟩))
        rcases hp with hp | hp
        · go_wp2_with fail
          go_ret3
          exact ⟨rfl, b1.trans (b2.mono b1.size)⟩
        · have hp' : ¬ p < 0 := by omega
          go_wp2_with fail
          go_ret3
          exact ⟨rfl, b1.trans (b2.mono b1.size)⟩
      · rw [if_neg hp] at hout
        obtain ⟨k, rfl⟩ := Int.eq_ofNat_of_zero_le (show 0 ≤ p by omega)
        rw [Int.toNat_natCast] at hout
        have hk : k ≤ u := by omega
        have h1 : u < l.length := by omega
        have h2 : k < l.length := by omega
        have hmv := okL_mv h1 h2 hok
        have hml := mv_len h1 h2
        rw [hl] at hml
        have hil := ins_list l u k hk h1
        generalize mvL l u k = l2 at hmv hml hout hil
        have hWd := fun W B v h => rword_any W B (u + 1) l2 hml (by omega) (fun x hx => Nat.lt_trans (hmv.2 x hx) (by omega)) v h
        have hgu : l[u]? = some (l.getD u 0) := by rw [getD_of h1]; simp
        go_enter Try.func16, Try.ntmps16
        go_upto_region 7 with (first
          | (go_at_call 56; refine (hA _).mono ?_; rintro e w2 ⟨v, rfl, hO, b2⟩)
          | (go_at_call 22; refine hC.mono ?_; rintro e w1 ⟨rfl, b1⟩))
        have b12 := b1.trans (b2.mono b1.size)
        obtain ⟨g, cap, rfl, hcap, hg1, hg2, c1⟩ := hO.at hgu
        rw [hl] at hcap hO ⊢
        have z2 := b12.size
        generalize hdd : l.getD u 0 = d at hil hout c1
        have HO := Lib.hid hO
        have HL := Lib.hid hil
        have HD := Lib.hid hdd
        clear hA hC hgu hO hil hdd hmv hok
        have n1 : ((l.drop 0).take k).length = k := by simp; omega
        have n2 : ((l.drop k).take (u - k)).length = u - k := by simp; omega
        have n3 : ((l.drop (u + 1)).take (l.length - (u + 1))).length = 14 - u := by simp [hl]
        go_upto_region 12 with (at_builtin; refine wpList_appN rfl (.tmp 35) (.tmp 38) rfl w2.heap.size (.slice none 0 0) [] rfl (own_nil _ _) ((l.drop 0).take k) ⟨g, 0, none⟩ k cap n1 rfl (own_cut HO.out 0 k) (by rw [n1]; simp; omega) (Nat.le_refl _) ?_; intro v3 w3 O3 _ b3)
        have z3 := b3.size
        have e3 := (Below.refl w2.heap.size w3).alloc (by omega) (.cells #[Value.int .i64 (d : Nat)] 3)
        go_upto_region 13 with (at_builtin; refine wpList_appN rfl (.tmp 40) (.tmp 42) rfl w2.heap.size v3 _ rfl (O3.alloc _) [d] ⟨w3.heap.size, 0, none⟩ 1 1 rfl rfl (news_one _ _) (by simp [n1]; omega) (by simp; omega) ?_; intro v4 w4 O4 _ b4)
        have b24 := b3.trans (e3.trans b4)
        have hO4 := HO.out.below b24 (fun g' hg' => (HO.out.lt g' hg').2)
        have z4 := b24.size
        go_upto_region 14 with (at_builtin; refine wpList_appN rfl (.tmp 44) (.tmp 48) rfl w2.heap.size v4 _ rfl O4 ((l.drop k).take (u - k)) ⟨g, k, none⟩ (u - k) _ n2 rfl (own_cut hO4 k (u - k)) (by simp [n1, n2]; omega) z4 ?_; intro v5 w5 O5 _ b5)
        have b25 := b24.trans b5
        have hO5 := HO.out.below b25 (fun g' hg' => (HO.out.lt g' hg').2)
        have z5 := b25.size
        have hO5' := own_cut hO5 (u + 1) (l.length - (u + 1))
        by_cases hcu : cap = u + 1
        · have n30 : (l.drop (u + 1)).take (l.length - (u + 1)) = [] := List.eq_nil_of_length_eq_zero (by omega)
          go_upto_region 15 with (at_builtin; refine wpList_appN rfl (.tmp 50) (.tmp 54) rfl w2.heap.size v5 _ rfl O5 ((l.drop (u + 1)).take (l.length - (u + 1))) ⟨g, 0, none⟩ (14 - u) _ n3 (by first | rfl | (simp [Act.eval, Act.put]; done)) (by rw [n30]; intro j u hj; simp [pvl] at hj) (by simp [n1, n2, n3]; omega) z5 ?_; intro v6 w6 O6 _ b6)
          rw [HL.out] at O6
          go_wp2_with (go_at_call 57; refine (hWd _ _ _ O6).mono ?_; rintro e w7 ⟨rfl, rfl⟩)
          go_ret3
          subst hout
          exact ⟨rfl, b12.trans ((b25.trans b6).mono z2)⟩
        · go_upto_region 15 with (at_builtin; refine wpList_appN rfl (.tmp 50) (.tmp 54) rfl w2.heap.size v5 _ rfl O5 ((l.drop (u + 1)).take (l.length - (u + 1))) ⟨g, u + 1, none⟩ (14 - u) _ n3 rfl hO5' (by simp [n1, n2, n3]; omega) z5 ?_; intro v6 w6 O6 _ b6)
          rw [HL.out] at O6
          go_wp2_with (go_at_call 57; refine (hWd _ _ _ O6).mono ?_; rintro e w7 ⟨rfl, rfl⟩)
          go_ret3
          subst hout
          exact ⟨rfl, b12.trans ((b25.trans b6).mono z2)⟩
  · rw [if_neg hok] at hC hout
    subst hout
    go_enter Try.func16, Try.ntmps16
    go_wp2_with (go_at_call 22; refine hC.mono ?_; rintro e w1 ⟨rfl, b1⟩)
    go_ret3
    exact ⟨rfl, b1⟩

set_option maxRecDepth 100000 in
set_option maxHeartbeats 2000000 in
theorem rremove_any (w : World) (x : Nat) (hx : x < 18446744073709551616) (p : Int) : Calls Try.prog 18 #[.int .u64 x, .int .i64 p] w fun e w' => e = .returned (res3 (remOut x p)) ∧ Below w.heap.size w w' := by
  have hC := rcheck_any w x hx
  have hA := fun W => parts_any W x hx
  have hl := slots_len x
  have hu : x % 16 < 16 := Nat.mod_lt _ (by omega)
  have hout : remOut x p = if OkL (slotsL x) then if p < 0 ∨ ((x % 16 : Nat) : Int) ≤ p then (0, 0, 1) else (wordL (x % 16 - 1) (mvL (slotsL x) p.toNat (x % 16 - 1)), (slotsL x).getD p.toNat 0, 0) else (0, 0, 4) := rfl
  unfold chkE at hC
  generalize remOut x p = out at hout ⊢
  generalize slotsL x = l at hC hA hl hout
  generalize x % 16 = u at hA hu hout
  by_cases hok : OkL l
  · rw [if_pos hok] at hC hout
    by_cases hp : p < 0 ∨ (u : Int) ≤ p
    · rw [if_pos hp] at hout
      subst hout
      go_enter Try.func18, Try.ntmps18
      go_upto_region 5 with (first
        | (go_at_call 56; refine (hA _).mono ?_; rintro e w2 ⟨v, rfl, hO, b2⟩)
        | (go_at_call 22; refine hC.mono ?_; rintro e w1 ⟨rfl, b1⟩))
      rcases hp with hp | hp
      · go_wp2_with fail
        go_ret3
        exact ⟨rfl, b1.trans (b2.mono b1.size)⟩
      · have hp' : ¬ p < 0 := by omega
        go_wp2_with fail
        go_ret3
        exact ⟨rfl, b1.trans (b2.mono b1.size)⟩
    · rw [if_neg hp] at hout
      obtain ⟨k, rfl⟩ := Int.eq_ofNat_of_zero_le (show 0 ≤ p by omega)
      rw [Int.toNat_natCast] at hout
      have hk : k < u := by omega
      have h1 : k < l.length := by omega
      have h2 : u - 1 < l.length := by omega
      have hmv := okL_mv h1 h2 hok
      have hml := mv_len h1 h2
      rw [hl] at hml
      have hil := rem_list l u k hk (by omega)
      generalize mvL l k (u - 1) = l2 at hmv hml hout hil
      have hui : ((u - 1 : Nat) : Int) = (u : Int) - 1 := by omega
      have hWd := fun W B v h => rword_any W B (u - 1) l2 hml (by omega) (fun x hx => Nat.lt_trans (hmv.2 x hx) (by omega)) v h
      rw [hui] at hWd
      have hgu : l[k]? = some (l.getD k 0) := by rw [getD_of h1]; simp
      go_enter Try.func18, Try.ntmps18
      go_upto_region 5 with (first
        | (go_at_call 56; refine (hA _).mono ?_; rintro e w2 ⟨v, rfl, hO, b2⟩)
        | (go_at_call 22; refine hC.mono ?_; rintro e w1 ⟨rfl, b1⟩))
      have b12 := b1.trans (b2.mono b1.size)
      obtain ⟨g, cap, rfl, hcap, hg1, hg2, c1⟩ := hO.at hgu
      rw [hl] at hcap hO ⊢
      have z2 := b12.size
      generalize hdd : l.getD k 0 = d at hil hout c1
      have HO := Lib.hid hO
      have HL := Lib.hid hil
      clear hA hC hgu hO hil hdd hmv hok
      have n1 : ((l.drop 0).take k).length = k := by simp; omega
      have n2 : ((l.drop (k + 1)).take (u - (k + 1))).length = u - (k + 1) := by simp; omega
      have n3 : ((l.drop u).take (l.length - u)).length = 15 - u := by simp [hl]
      have HUI := Lib.hid hui
      clear hui
      go_upto_region 10 with (at_builtin; refine wpList_appN rfl (.tmp 33) (.tmp 36) rfl w2.heap.size (.slice none 0 0) [] rfl (own_nil _ _) ((l.drop 0).take k) ⟨g, 0, none⟩ k cap n1 rfl (own_cut HO.out 0 k) (by rw [n1]; simp; omega) (Nat.le_refl _) ?_; intro v3 w3 O3 _ b3)
      have z3 := b3.size
      have hO3 := HO.out.below b3 (fun g' hg' => (HO.out.lt g' hg').2)
      have hO3' := own_cut hO3 (k + 1) (u - (k + 1))
      by_cases hcu : cap = k + 1
      · obtain rfl : k = 14 := by omega
        obtain rfl : u = 15 := by omega
        obtain rfl : cap = 15 := by omega
        have n20 : (l.drop (14 + 1)).take (15 - (14 + 1)) = [] := List.eq_nil_of_length_eq_zero (by omega)
        go_upto_region 11 with (at_builtin; refine wpList_appN rfl (.tmp 38) (.tmp 43) rfl w2.heap.size v3 _ rfl O3 ((l.drop (14 + 1)).take (15 - (14 + 1))) ⟨g, 0, none⟩ (15 - (14 + 1)) _ n2 (by first | rfl | (simp [Act.eval, Act.put]; done)) (by rw [n20]; intro j uu hj; simp [pvl] at hj) (by simp [n1, n2]; omega) z3 ?_; intro v4 w4 O4 _ b4)
        have b24 := b3.trans b4
        have z4 := b24.size
        have e4 := (Below.refl w2.heap.size w4).alloc (by omega) (.cells #[Value.int .i64 (d : Nat)] 3)
        go_upto_region 12 with (at_builtin; refine wpList_appN rfl (.tmp 45) (.tmp 47) rfl w2.heap.size v4 _ rfl (O4.alloc _) [d] ⟨w4.heap.size, 0, none⟩ 1 1 rfl rfl (news_one _ _) (by simp [n1, n2]; omega) (by simp; omega) ?_; intro v5 w5 O5 _ b5)
        have b25 := b24.trans (e4.trans b5)
        have hO5 := HO.out.below b25 (fun g' hg' => (HO.out.lt g' hg').2)
        have z5 := b25.size
        have hO5' := own_cut hO5 15 (l.length - 15)
        have n30 : (l.drop 15).take (l.length - 15) = [] := List.eq_nil_of_length_eq_zero (by omega)
        go_upto_region 13 with (at_builtin; refine wpList_appN rfl (.tmp 49) (.tmp 52) rfl w2.heap.size v5 _ rfl O5 ((l.drop 15).take (l.length - 15)) ⟨g, 0, none⟩ (15 - 15) _ n3 (by first | rfl | (simp [Act.eval, Act.put]; done)) (by rw [n30]; intro j uu hj; simp [pvl] at hj) (by simp [n1, n2, n3]; omega) z5 ?_; intro v6 w6 O6 _ b6)
        rw [HL.out] at O6
        go_wp2_with (go_at_call 57; refine (hWd _ _ _ O6).mono ?_; rintro e w7 ⟨rfl, rfl⟩)
        go_ret3
        subst hout
        exact ⟨rfl, b12.trans ((b25.trans b6).mono z2)⟩
      · go_upto_region 11 with (at_builtin; refine wpList_appN rfl (.tmp 38) (.tmp 43) rfl w2.heap.size v3 _ rfl O3 ((l.drop (k + 1)).take (u - (k + 1))) ⟨g, k + 1, none⟩ (u - (k + 1)) _ n2 rfl hO3' (by simp [n1, n2]; omega) z3 ?_; intro v4 w4 O4 _ b4)
        have b24 := b3.trans b4
        have z4 := b24.size
        have e4 := (Below.refl w2.heap.size w4).alloc (by omega) (.cells #[Value.int .i64 (d : Nat)] 3)
        go_upto_region 12 with (at_builtin; refine wpList_appN rfl (.tmp 45) (.tmp 47) rfl w2.heap.size v4 _ rfl (O4.alloc _) [d] ⟨w4.heap.size, 0, none⟩ 1 1 rfl rfl (news_one _ _) (by simp [n1, n2]; omega) (by simp; omega) ?_; intro v5 w5 O5 _ b5)
        have b25 := b24.trans (e4.trans b5)
        have hO5 := HO.out.below b25 (fun g' hg' => (HO.out.lt g' hg').2)
        have z5 := b25.size
        have hO5' := own_cut hO5 u (l.length - u)
        by_cases hcv : cap = u
        · have n30 : (l.drop u).take (l.length - u) = [] := List.eq_nil_of_length_eq_zero (by omega)
          go_upto_region 13 with (at_builtin; refine wpList_appN rfl (.tmp 49) (.tmp 52) rfl w2.heap.size v5 _ rfl O5 ((l.drop u).take (l.length - u)) ⟨g, 0, none⟩ (15 - u) _ n3 (by first | rfl | (simp [Act.eval, Act.put]; done)) (by rw [n30]; intro j u hj; simp [pvl] at hj) (by simp [n1, n2, n3]; omega) z5 ?_; intro v6 w6 O6 _ b6)
          rw [HL.out] at O6
          go_wp2_with (go_at_call 57; refine (hWd _ _ _ O6).mono ?_; rintro e w7 ⟨rfl, rfl⟩)
          go_ret3
          subst hout
          exact ⟨rfl, b12.trans ((b25.trans b6).mono z2)⟩
        · go_upto_region 13 with (at_builtin; refine wpList_appN rfl (.tmp 49) (.tmp 52) rfl w2.heap.size v5 _ rfl O5 ((l.drop u).take (l.length - u)) ⟨g, u, none⟩ (15 - u) _ n3 rfl hO5' (by simp [n1, n2, n3]; omega) z5 ?_; intro v6 w6 O6 _ b6)
          rw [HL.out] at O6
          go_wp2_with (go_at_call 57; refine (hWd _ _ _ O6).mono ?_; rintro e w7 ⟨rfl, rfl⟩)
          go_ret3
          subst hout
          exact ⟨rfl, b12.trans ((b25.trans b6).mono z2)⟩
  · rw [if_neg hok] at hC hout
    subst hout
    go_enter Try.func18, Try.ntmps18
    go_wp2_with (go_at_call 22; refine hC.mono ?_; rintro e w1 ⟨rfl, b1⟩)
    go_ret3
    exact ⟨rfl, b1⟩

end Go.Proofs.Ythplnecnagbedaa
