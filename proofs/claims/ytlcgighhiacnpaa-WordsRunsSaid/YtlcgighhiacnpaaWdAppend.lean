/- append of a slice that came in, nil or not, onto a slice of the call's own; picks of the call's own; conditions: none. -/
import Derived.Test.YtlcgighhiacnpaaWdWorks
namespace Go.Proofs.Ytlcgighhiacnpaa
open Go.RowKit

theorem run_append_none {P : Program} (w : World) (base : Nat) (t ty e : TypeId) (i : TypeInfo) (size : Nat) (ht : P.underlying t = some (.slice e)) (hi : P.info? e = some i) (v : Value) (n : Nat) (xs : List Value) (hown : w.ownsRow base e size v n xs) (c : Nat) :
    (Builtin.append_ #[t, t] ty #[v, .slice none 0 c]).run P w = .ok v w := by
  rcases hown.2 with ⟨rfl, rfl⟩ | ⟨g, cap, cur, rfl, hbg, hg, hnc, hcm, hcs, htake⟩
  · simp [Builtin.append_, run_underlying ht, sizeOf, typeInfo, hi, Builtin.lenOf, Builtin.firstCells, loadCells, loadCellsFrom]
  · simp [Builtin.append_, run_underlying ht, sizeOf, typeInfo, hi, Builtin.lenOf, Builtin.firstCells, loadCells, loadCellsFrom, hnc]
    simp [storeCells]

theorem wpList_append_opt {P : Program} {ops : Array Oper} {rest : List Oper} {o : Oper} {a : Act} {w : World} {Q : Exit → Act → World → Prop} (hgd : o.guard = none) (s x : Operand) (t : TypeId)
    (ho : o.op = .call { callee := .builtin .append, args := #[s, x], argTypes := #[t, t] })
    (base : Nat) (e : TypeId) (i : TypeInfo) (z : Value) (size bytes : Nat) (ht : P.underlying t = some (.slice e)) (hi : P.info? e = some i) (hz : i.zero = some z)
    (hsize : i.size = size) (hby : i.bytes = bytes) (hzs : z.cells.size = size) (hsz : 0 < size)
    (v : Value) (n : Nat) (xs : List Value) (hs : a.eval s = v) (hown : w.ownsRow base e size v n xs)
    (ao : Option Addr) (m c : Nat) (news : List Value) (hx : a.eval x = .slice ao m c) (hl : news.length = m * size) (hnews : ∀ j u, news[j]? = some u → ∃ ad, ao = some ad ∧ w.cell? (ad.add j) = some u) (h1 : ∀ u ∈ news, u.oneCell' = true)
    (h63 : n + m ≤ maxLen) (hbytes : (n + m) * bytes ≤ 140737488355328) (hbase : base ≤ w.heap.size)
    (h : ∀ (ao' : Option Addr) (cap' : Nat) w', w'.ownsRow base e size (.slice ao' (n + m) cap') (n + m) (xs ++ news) → w.grownBy w' v.ownBlock → ((Value.slice ao' (n + m) cap').ownBlock = v.ownBlock ∨ (Value.slice ao' (n + m) cap').ownBlock = some w.heap.size) → wpList P ops Q rest (a.put o.dst (.slice ao' (n + m) cap')) w') :
    wpList P ops Q (o :: rest) a w := by
  have h' : ∀ v' w', w'.ownsRow base e size v' (n + m) (xs ++ news) → w.grownBy w' v.ownBlock → (v'.ownBlock = v.ownBlock ∨ v'.ownBlock = some w.heap.size) → wpList P ops Q rest (a.put o.dst v') w' := fun v' w' h1 h2 h3 => by
    obtain ⟨ao', cap', hv, _⟩ := own_form h1
    rw [hv] at h1 h3 ⊢
    exact h ao' cap' w' h1 h2 h3
  cases ao with
  | some ad =>
    exact wpList_append_own_at w hgd s x t ho base e i z size bytes ht hi hz hsize hby hzs hsz v n xs hs hown ad m c news hx hl (fun j u hu => by
      obtain ⟨ad', e1, hc⟩ := hnews j u hu
      injection e1 with e1
      rw [e1]; exact hc) h1 h63 hbytes hbase fun v' w' h2 h3 _ h5 => h' v' w' h2 h3 h5
  | none =>
    have hm : m = 0 := by
      rcases Nat.eq_zero_or_pos m with h0 | h0
      · exact h0
      · have hlt : 0 < news.length := by rw [hl]; exact Nat.mul_pos h0 hsz
        obtain ⟨_, e1, _⟩ := hnews 0 _ (List.getElem?_eq_getElem hlt)
        cases e1
    subst hm
    have hn : news = [] := List.eq_nil_of_length_eq_zero (by simpa using hl)
    subst hn
    refine wpList_plain hgd fun K hK => ?_
    have hr := run_append_none (P := P) w base t o.type e i size ht hi v n xs hown c
    unfold Oper.wp execOp
    simp only [ho, resolve, invoke, builtin, Sem.run_bind, Sem.run_pure, Result.andThen_ok, List.map_toArray, List.map_cons, List.map_nil, hs, hx, hr]
    exact hK _ _ (h' v w (by simpa using hown) ⟨rfl, rfl, rfl, Nat.le_refl _, fun _ _ _ => rfl⟩ (.inl rfl))

def OwnN (B : Nat) (w : World) (v : Value) (P : List Int) : Prop := w.ownsRow B 3 1 v P.length (P.map (.int .i64))
theorem OwnN.rd {B : Nat} {w : World} {v : Value} {P : List Int} (h : OwnN B w v P) : ∃ ao cap, v = .slice ao P.length cap ∧ RdN w w.heap.size ao P := by
  rcases Nat.eq_zero_or_pos P.length with h0 | h0
  · obtain ⟨ao, cap, e, _⟩ := own_form h
    exact ⟨ao, cap, e, fun k hk => by omega⟩
  · obtain ⟨g, cap, e, _, _, hg, hc, _⟩ := own_cells h h0
    exact ⟨_, cap, e, fun k hk => ⟨g, 0, rfl, hg, by rw [Nat.zero_add]; exact hc k _ (by simp [List.getD, hk])⟩⟩
theorem RdN.news {w : World} {B : Nat} {ao : Option Addr} {P : List Int} (h : RdN w B ao P) (o : Obj) : ∀ j u, (P.map (Value.int .i64))[j]? = some u → ∃ ad, ao = some ad ∧ (w.alloc o).cell? (ad.add j) = some u := fun j u hj => by
  have hj' : j < P.length := by
    have := (List.getElem?_eq_some_iff.1 hj).1
    simpa using this
  obtain ⟨b, off, e, hB, hc⟩ := h j hj'
  refine ⟨_, e, ?_⟩
  rw [Addr.add_lit]
  refine Lib.cell?_alloc_some _ ?_
  rw [hc, ← hj]
  simp [List.getD, hj']
theorem RdU.news {w : World} {B : Nat} {ao : Option Addr} {C : List Nat} (h : RdU w B ao C) (o : Obj) : ∀ j u, (uvl C)[j]? = some u → ∃ ad, ao = some ad ∧ (w.alloc o).cell? (ad.add j) = some u := fun j u hj => by
  have hj' : j < C.length := by
    have := (List.getElem?_eq_some_iff.1 hj).1
    rwa [uvl_len] at this
  obtain ⟨b, off, e, hB, hc, _⟩ := h j hj'
  refine ⟨_, e, ?_⟩
  rw [Addr.add_lit]
  refine Lib.cell?_alloc_some _ ?_
  rw [hc, ← hj]
  simp [uvl, List.getD, hj']

theorem Try.info3 : (Try.prog.info? 3).map (fun i => (i.zero, i.size, i.bytes)) = some (some (.int .i64 0), 1, 8) := by kernel_rfl

def intOfW : Value → Int | .int _ q => q | _ => 0

/-- The same words? -/
theorem sameWords_any (w : World) (a b : Option Addr) (n m ca cb : Nat) (A B : List Nat) (hA : A.length = n) (hB : B.length = m) (hl : n ≤ 9223372036854775807 ∧ m ≤ 9223372036854775807) (ra : RdU w w.heap.size a A) (rb : RdU w w.heap.size b B) :
    Calls Try.prog 16 #[.slice a n ca, .slice b m cb] w fun e w' => e = .returned (.bool (decide (A = B))) ∧ ∃ q, w' = w.drewN q := by
  obtain ⟨hl1, hl2⟩ := hl
  by_cases hnm : n = m
  · subst hnm
    have HA := Lib.hid hA
    have HB := Lib.hid hB
    clear hA hB
    have RA := Lib.hid ra
    have RB := Lib.hid rb
    clear ra rb
    go_enter Try.func16, Try.ntmps16
    go_wp2
    go_loopg [5] n (fun gn i wr => ∃ (k : Nat), k ≤ n ∧ i = .int .i64 k ∧ gn = n - k ∧ A.take k = B.take k ∧ ∃ q, wr = w.drewN q)
    case atStart => exact ⟨0, Nat.zero_le _, rfl, rfl, rfl, 0, rfl⟩
    case round =>
      obtain ⟨k, hk, rfl, rfl, htk, q, rfl⟩ := hrel
      by_cases hkn : k < n
      · obtain ⟨ba, oa, rfl, _, c1, _⟩ := RA.out k (by rw [HA.out]; exact hkn)
        obtain ⟨bb, ob, rfl, _, c2, _⟩ := RB.out k (by rw [HB.out]; exact hkn)
        have hta : A.take (k + 1) = A.take k ++ [A.getD k 0] := by rw [List.take_succ_eq_append_getElem (by rw [HA.out]; exact hkn)]; simp [List.getD, HA.out, hkn]
        have htb : B.take (k + 1) = B.take k ++ [B.getD k 0] := by rw [List.take_succ_eq_append_getElem (by rw [HB.out]; exact hkn)]; simp [List.getD, HB.out, hkn]
        have HT := Lib.hid htk
        have HTA := Lib.hid hta
        have HTB := Lib.hid htb
        clear htk hta htb
        generalize hx : A.getD k 0 = x at c1
        generalize hy : B.getD k 0 = y at c2
        have HX := Lib.hid hx
        have HY := Lib.hid hy
        clear hx hy
        by_cases hxy : x = y
        · have HE := Lib.hid hxy
          subst hxy
          go_upto_region 6 with fail
          go_quiet (fail)
          go_wp2_with fail
          go_roundg (n - (k + 1))
          case rel => exact ⟨k + 1, by omega, by go_num, rfl, by rw [HTA.out, HTB.out, HT.out, HX.out, HY.out], _, rfl⟩
          case measure => omega
        · have hd : decide (A = B) = false := by
            refine decide_eq_false fun h => hxy ?_
            rw [← HX.out, ← HY.out, h]
          have hne : (((x : Nat) : Int) != ((y : Nat) : Int)) = true := by simp only [bne_iff_ne]; intro h; exact hxy (by omega)
          have HD := Lib.hid hd
          clear hd hxy
          go_upto_region 6 with fail
          go_quiet (fail)
          go_wp2_with fail
          go_ret
          exact ⟨by rw [HD.out]; rfl, _, World.drewN_drewN _ _ _⟩
      · obtain rfl : k = n := by omega
        have hd : decide (A = B) = true := decide_eq_true (by rw [List.take_of_length_le (by rw [HA.out]; exact Nat.le_refl _), List.take_of_length_le (by rw [HB.out]; exact Nat.le_refl _)] at htk; exact htk)
        have HD := Lib.hid hd
        clear hd htk
        go_wp2
        go_ret
        exact ⟨by rw [HD.out]; rfl, _, rfl⟩
  · have hd : decide (A = B) = false := decide_eq_false fun h => hnm (by rw [← hA, ← hB, h])
    have HD := Lib.hid hd
    clear hd hA hB ra rb
    have hne : (((n : Nat) : Int) != ((m : Nat) : Int)) = true := by simp only [bne_iff_ne]; omega
    go_enter Try.func16, Try.ntmps16
    go_wp2
    go_ret
    exact ⟨by rw [HD.out]; rfl, 0, rfl⟩

/-- The same numbers? -/
theorem sameInts_any (w : World) (a b : Option Addr) (n m ca cb : Nat) (A B : List Int) (hA : A.length = n) (hB : B.length = m) (hl : n ≤ 9223372036854775807 ∧ m ≤ 9223372036854775807) (ra : RdN w w.heap.size a A) (rb : RdN w w.heap.size b B) :
    Calls Try.prog 30 #[.slice a n ca, .slice b m cb] w fun e w' => e = .returned (.bool (decide (A = B))) ∧ ∃ q, w' = w.drewN q := by
  obtain ⟨hl1, hl2⟩ := hl
  by_cases hnm : n = m
  · subst hnm
    have HA := Lib.hid hA
    have HB := Lib.hid hB
    clear hA hB
    have RA := Lib.hid ra
    have RB := Lib.hid rb
    clear ra rb
    go_enter Try.func30, Try.ntmps30
    go_wp2
    go_loopg [5] n (fun gn i wr => ∃ (k : Nat), k ≤ n ∧ i = .int .i64 k ∧ gn = n - k ∧ A.take k = B.take k ∧ ∃ q, wr = w.drewN q)
    case atStart => exact ⟨0, Nat.zero_le _, rfl, rfl, rfl, 0, rfl⟩
    case round =>
      obtain ⟨k, hk, rfl, rfl, htk, q, rfl⟩ := hrel
      by_cases hkn : k < n
      · obtain ⟨ba, oa, rfl, _, c1⟩ := RA.out k (by rw [HA.out]; exact hkn)
        obtain ⟨bb, ob, rfl, _, c2⟩ := RB.out k (by rw [HB.out]; exact hkn)
        have hta : A.take (k + 1) = A.take k ++ [A.getD k 0] := by rw [List.take_succ_eq_append_getElem (by rw [HA.out]; exact hkn)]; simp [List.getD, HA.out, hkn]
        have htb : B.take (k + 1) = B.take k ++ [B.getD k 0] := by rw [List.take_succ_eq_append_getElem (by rw [HB.out]; exact hkn)]; simp [List.getD, HB.out, hkn]
        have HT := Lib.hid htk
        have HTA := Lib.hid hta
        have HTB := Lib.hid htb
        clear htk hta htb
        generalize hx : A.getD k 0 = x at c1
        generalize hy : B.getD k 0 = y at c2
        have HX := Lib.hid hx
        have HY := Lib.hid hy
        clear hx hy
        by_cases hxy : x = y
        · have HE := Lib.hid hxy
          subst hxy
          go_upto_region 6 with fail
          go_quiet (fail)
          go_wp2_with fail
          go_roundg (n - (k + 1))
          case rel => exact ⟨k + 1, by omega, by go_num, rfl, by rw [HTA.out, HTB.out, HT.out, HX.out, HY.out], _, rfl⟩
          case measure => omega
        · have hd : decide (A = B) = false := by
            refine decide_eq_false fun h => hxy ?_
            rw [← HX.out, ← HY.out, h]
          have hne : (x != y) = true := by simp only [bne_iff_ne]; intro h; exact hxy (by exact h)
          have HD := Lib.hid hd
          clear hd hxy
          go_upto_region 6 with fail
          go_quiet (fail)
          go_wp2_with fail
          go_ret
          exact ⟨by rw [HD.out]; rfl, _, World.drewN_drewN _ _ _⟩
      · obtain rfl : k = n := by omega
        have hd : decide (A = B) = true := decide_eq_true (by rw [List.take_of_length_le (by rw [HA.out]; exact Nat.le_refl _), List.take_of_length_le (by rw [HB.out]; exact Nat.le_refl _)] at htk; exact htk)
        have HD := Lib.hid hd
        clear hd htk
        go_wp2
        go_ret
        exact ⟨by rw [HD.out]; rfl, _, rfl⟩
  · have hd : decide (A = B) = false := decide_eq_false fun h => hnm (by rw [← hA, ← hB, h])
    have HD := Lib.hid hd
    clear hd hA hB ra rb
    have hne : (((n : Nat) : Int) != ((m : Nat) : Int)) = true := by simp only [bne_iff_ne]; omega
    go_enter Try.func30, Try.ntmps30
    go_wp2
    go_ret
    exact ⟨by rw [HD.out]; rfl, 0, rfl⟩


end Go.Proofs.Ytlcgighhiacnpaa
