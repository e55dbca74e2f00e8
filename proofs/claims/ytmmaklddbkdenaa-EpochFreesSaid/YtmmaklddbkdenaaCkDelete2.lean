/- slices.DeleteFunc over things by the closure of Free, and Free, each by its contract; conditions: bounds on the clock's numbers, at most 4096 things. -/
import Derived.Test.YtmmaklddbkdenaaCkDelete
import Derived.Deep.DeepCutAuto
import Derived.Deep.CutBlock
namespace Go.Proofs.Ytmmaklddbkdenaa
open Go.RowKit

def DeleteE (k : Ck) (ts : List (Int × Int)) (os : List Int) (bo B : Nat) (tv : Value) (w : World) (e : Ending) (w' : World) : Prop :=
  ∃ (tv' ov' : Value), e = .returned tv' ∧ Things w' tv' (keepT k ts) ∧ tv'.ownBlock = tv.ownBlock ∧ Blk w' bo 41 #[ov'] ∧ Outs w' B ov' (os ++ toldT k ts) ∧ BChg B tv.ownBlock.toList w w'

set_option maxRecDepth 100000 in
set_option maxHeartbeats 4000000 in
theorem deleteFunc_any (w : World) (c bw bc bo B : Nat) (tv0 ov : Value) (k : Ck) (os : List Int) (A : Option Addr) (cap : Nat) (ts : List (Int × Int)) (h : IsClock w c bw tv0 k) (hk : k.Ok) (hc : Blk w bc 26 #[.pointer (some ⟨c, 0, none⟩)])
    (ho : Blk w bo 41 #[ov]) (hO : Outs w B ov os) (hB : B ≤ w.heap.size) (hbo : B ≤ bo) (h1 : c < B) (h2 : bw < B) (h3 : bc < B) (hl : os.length ≤ 1000) (hts : ts.length ≤ 4096) (ht : Things w (.slice A ts.length cap) ts) (hA : ∀ a, A = some a → a.block < B) :
    Calls Try.prog 23 #[.slice A ts.length cap, .func (.func 24) #[] #[.pointer (some ⟨bc, 0, none⟩), .pointer (some ⟨bo, 0, none⟩)]] w (DeleteE k ts os bo B (.slice A ts.length cap) w) := by
  have hrd : Rd2 w B A ts := by
    intro q hq
    rcases ht.2 with ⟨e1, e2⟩ | ⟨g, cap', cur, e1, _, hg, _, _, _, htk⟩
    · omega
    · simp only [Value.slice.injEq] at e1
      obtain ⟨rfl, _, rfl⟩ := e1
      have hg' : Blk w g 58 cur := hg
      obtain ⟨a, b⟩ := row_get htk rfl hq
      exact ⟨g, 0, rfl, hA _ rfl, by rw [Nat.zero_add]; exact hg'.at _ a, by rw [Nat.zero_add]; exact hg'.at _ b⟩
  have hI := indexThings_any w c bw bc bo B tv0 ov k os A cap ts h hk hc ho hO hB hbo h1 h2 h3 (by omega) hts hrd
  have hcf := call24
  obtain ⟨i0, hi, hz0, hz1, hz2⟩ := info_parts Try.info58
  have HI := Lib.hid hi
  have HH := Lib.hid h
  have HC := Lib.hid hc
  have HT := Lib.hid ht
  clear h hc ht hrd hi
  go_enter Try.func23, Try.ntmps23
  go_wp2_with (go_at_call 35; refine hI.mono ?_; rintro e w1 ⟨r, os1, ov1, rfl, hf, ho1, hO1, hb1⟩; rcases hf with ⟨rfl, hf⟩ | ⟨q, rfl, hq, hf⟩; all_goals have HF := Lib.hid hf; all_goals clear hf)
  · go_ret
    obtain ⟨hno, rfl⟩ := HF.out
    obtain ⟨e1, e2⟩ := none_free k ts ts.length (Nat.le_refl _) hno
    rw [List.take_length] at e1 e2
    refine ⟨_, ov1, rfl, ?_, rfl, ho1, by rw [e2, List.append_nil]; exact hO1, BChg.of_below hb1 _⟩
    rw [e1]
    refine own_bchg (l := []) HT.out (BChg.of_below hb1 _) (fun g' hg' => ⟨?_, by simp⟩)
    cases A with
    | none => cases hg'
    | some a =>
      have := hA a rfl
      have e : a.block = g' := by simpa [Value.ownBlock] using hg'
      omega
  · obtain ⟨hno, hyes, rfl⟩ := HF.out
    obtain ⟨g, cur, rfl, hg, hcap, hcm, hcs, htk⟩ : ∃ g cur, A = some ⟨g, 0, none⟩ ∧ Blk w g 58 cur ∧ ts.length ≤ cap ∧ cap ≤ maxLen ∧ cur.size = cap * 2 ∧ cur.toList.take (ts.length * 2) = thCells ts := by
      rcases HT.out.2 with ⟨_, e2⟩ | ⟨g, cap', cur, e1, _, hg, a1, a2, a3, a4⟩
      · omega
      · simp only [Value.slice.injEq] at e1
        obtain ⟨rfl, _, rfl⟩ := e1
        exact ⟨g, cur, rfl, hg, a1, a2, a3, a4⟩
    have hgB : g < B := hA _ rfl
    have hz1 := hb1.size
    have n1 := HH.out.1.ne hg (by decide)
    have n2 := HH.out.2.ne hg (by decide)
    have n3 := HC.out.ne hg (by decide)
    have HNO := Lib.hid hno
    have HYES := Lib.hid hyes
    have HCS := Lib.hid hcs
    have HTK := Lib.hid htk
    have hown : (Value.slice (some ⟨g, 0, none⟩) ts.length cap).ownBlock.toList = [g] := rfl
    have HOW := Lib.hid hown
    unfold maxLen at hcm
    clear HF hno hyes hcs htk hA hown hI
    go_loopg [5, 6] (ts.length - (q + 1)) (fun gn iv jv wr => ∃ (i j : Nat) (cur : Array Value) (L : List (Int × Int)) (ov : Value), iv = .int .i64 i ∧ jv = .int .i64 j ∧ gn = ts.length - j ∧ i < j ∧ j ≤ ts.length ∧ Blk wr g 58 cur ∧ cur.size = cap * 2 ∧ cur.toList.take (ts.length * 2) = thCells L ∧ L.length = ts.length ∧
      L.take i = keepT k (ts.take j) ∧ (∀ p, j ≤ p → L.getD p (0, 0) = ts.getD p (0, 0)) ∧ Blk wr bo 41 #[ov] ∧ Outs wr B ov (os ++ toldT k (ts.take j)) ∧ BChg B [g] w wr)
    case atStart =>
      obtain ⟨e1, e2⟩ := none_free k ts q (by omega) HNO.out
      have e3 := keepT_snoc k (ts.take q) (ts.getD q (0, 0))
      have e4 := toldT_snoc k (ts.take q) (ts.getD q (0, 0))
      rw [HYES.out, if_pos rfl, ← take_succ_getD ts q hq] at e3 e4
      refine ⟨q, q + 1, cur, ts, ov1, rfl, by go_num, rfl, by omega, by omega, hg.below hb1 hgB, HCS.out, HTK.out, rfl, ?_, fun _ _ => rfl, ho1, ?_, BChg.of_below hb1 _⟩
      · rw [e3, e1]
      · rw [e4, e2]; exact hO1
    case round =>
      obtain ⟨i, j, cur, L, ov2, rfl, rfl, rfl, hij, hj, hcur, hcs, htk, hLl, hLk, hLr, ho2, hO2, hbc⟩ := hrel
      have HCS := Lib.hid hcs
      have HTK := Lib.hid htk
      have HLL := Lib.hid hLl
      have HLK := Lib.hid hLk
      have HLR := Lib.hid hLr
      clear hcs htk hLl hLk hLr
      have hz := hbc.size
      by_cases hlt : j < ts.length
      · obtain ⟨r1, r2⟩ := row_get HTK.out HLL.out hlt
        rw [HLR.out j (Nat.le_refl _)] at r1 r2
        have hsn := take_succ_getD ts j hlt
        have e3 := keepT_snoc k (ts.take j) (ts.getD j (0, 0))
        have e4 := toldT_snoc k (ts.take j) (ts.getD j (0, 0))
        rw [← hsn] at e3 e4
        have htl := toldT_len k (ts.take j)
        rw [List.length_take] at htl
        have HTL : (os ++ toldT k (ts.take j)).length ≤ 100000 := by rw [List.length_append]; omega
        clear htl
        generalize ts.getD j (0, 0) = x at r1 r2 e3 e4
        obtain ⟨th, ep⟩ := x
        dsimp only at r1 r2 e3 e4
        have hclk : IsClock wr c bw tv0 k := ⟨hbc.blk HH.out.1 h1 (by simpa using n1), hbc.blk HH.out.2 h2 (by simpa using n2)⟩
        have hbc' := hbc.blk HC.out h3 (by simpa using n3)
        have hgb : g ≠ bo := by omega
        have hF := free1_any (wr.alloc (.cells #[.int .i64 th, .int .i64 ep] 58)) c bw bc bo B tv0 ov2 k (os ++ toldT k (ts.take j)) ⟨hclk.1.alloc _, hclk.2.alloc _⟩ hk (hbc'.alloc _) (ho2.alloc _) (hO2.alloc _) (by simp; omega) HTL th ep
        have hgl := hcur.lt
        have c1 := hcur.at (j * 2) r1
        have c2 := hcur.at (j * 2 + 1) r2
        have hOb : ∀ x, ov2.ownBlock = some x → B ≤ x ∧ x < wr.heap.size := fun x hx => hO2.lt x hx
        have HOB := Lib.hid hOb
        have HE3 := Lib.hid e3
        have HE4 := Lib.hid e4
        clear e3 e4 hsn r1 r2 hOb
        have hbo2 := ho2.lt
        have hfr : ∀ x ∈ bo :: ov2.ownBlock.toList, x ∈ [g] ∨ B ≤ x := by
          intro x hx
          simp only [List.mem_cons, Option.mem_toList] at hx
          rcases hx with rfl | hx
          · exact .inr hbo
          · exact .inr (HOB.out x hx).1
        have HFR := Lib.hid hfr
        clear hfr
        cases hp : freeP k ep with
        | true =>
          rw [hp] at hF
          have HP := Lib.hid hp
          clear hp
          go_wp2_with (go_at_call 24; refine hF.mono ?_; rintro e w3 ⟨rfl, ov3, ho3, hO3, c3, m3⟩)
          go_roundg (ts.length - (j + 1))
          case rel =>
            have hzz := c3.size
            simp only [World.size_alloc] at hzz
            have hne3 : g ∉ bo :: ov2.ownBlock.toList := by
              intro hx
              simp only [List.mem_cons, Option.mem_toList] at hx
              rcases hx with h | h
              · exact hgb h
              · have := (HOB.out g h).1; omega
            have t3 := HE3.out
            have t4 := HE4.out
            rw [HP.out, if_pos rfl] at t3 t4
            refine ⟨i, j + 1, cur, L, ov3, rfl, by go_num, rfl, by omega, by omega, (hcur.alloc _).chg c3 hne3, HCS.out, HTK.out, HLL.out, by rw [t3]; exact HLK.out, fun p hp => HLR.out p (by omega), ho3, ?_, (hbc.alloc (by omega) _).chg c3 (by simp; omega) HFR.out⟩
            rw [t4]
            simpa using hO3
          case measure => omega
        | false =>
          rw [hp] at hF
          have HP := Lib.hid hp
          clear hp
          have hgn : g ∉ bo :: ov2.ownBlock.toList := by
            intro hx
            simp only [List.mem_cons, Option.mem_toList] at hx
            rcases hx with h | h
            · exact hgb h
            · have := (HOB.out g h).1; omega
          have htn : wr.heap.size ∉ bo :: ov2.ownBlock.toList := by
            intro hx
            simp only [List.mem_cons, Option.mem_toList] at hx
            rcases hx with h | h
            · omega
            · have := (HOB.out _ h).2; omega
          have HGN := Lib.hid hgn
          have HTN := Lib.hid htn
          clear hgn htn
          obtain ⟨s1, s2⟩ := row_get HTK.out HLL.out (show i < ts.length by omega)
          go_wp2_with (go_at_call 24; refine hF.mono ?_; rintro e w3 ⟨rfl, ov3, ho3, hO3, c3, m3⟩; have k3 := (hcur.alloc _).chg c3 HGN.out; have v3 := (Blk.new wr 58 #[.int .i64 th, .int .i64 ep]).chg c3 HTN.out; have x1 := k3.at (i * 2) s1; have x2 := k3.at (i * 2 + 1) s2; have x3 := k3.free (i * 2); have x4 := k3.free (i * 2 + 1); have x5 := v3.at 0 rfl; have x6 := v3.at 1 rfl)
          go_roundg (ts.length - (j + 1))
          case rel =>
            have hzz := c3.size
            simp only [World.size_alloc] at hzz
            have t3 := HE3.out
            have t4 := HE4.out
            rw [HP.out] at t3 t4
            simp only [Bool.false_eq_true, if_false] at t3 t4 hO3
            have hon := own_ne hO3 k3 (by decide)
            have hLi : i < L.length := by rw [HLL.out]; omega
            refine ⟨i + 1, j + 1, _, L.set i (th, ep), ov3, by go_num, by go_num, rfl, by omega, by omega, (k3.set _ _).set _ _, by simpa using HCS.out, row_set HTK.out i th ep, by simpa using HLL.out, ?_, fun p hp => ?_, (ho3.far (by dsimp only; omega) _).far (by dsimp only; omega) _, ?_, ?_⟩
            · rw [t3, ← HLK.out, List.take_succ_eq_append_getElem (by simpa using hLi)]
              simp [List.take_set_of_le (Nat.le_refl i)]
            · rw [← HLR.out p (by omega)]
              simp [List.getD, List.getElem?_set, show i ≠ p by omega]
            · rw [t4]
              exact ownsRow_setCell_other (ownsRow_setCell_other hO3 (a := ⟨g, i * 2, none⟩) hon.symm _) (a := ⟨g, i * 2 + 1, none⟩) hon.symm _
            · exact (((hbc.alloc (by omega) _).chg c3 (by simp; omega) HFR.out).setCell (by omega) (.inl (by simp)) _).setCell (by simp; omega) (.inl (by simp)) _
          case measure => omega
      · obtain rfl : j = ts.length := by omega
        go_wp2_with (refine wpList_clear rfl (.tmp 38) 52 rfl 58 i0 (.agg #[.int .i64 0, .int .i64 0]) Try.underlying52 HI.out hz0 (by intro v hv; simp [Value.cells] at hv; subst hv; rfl) hcur (i * 2) (ts.length - i) _ rfl ?pos ?fit ?rest)
        case pos => omega
        case fit => have := HCS.out; simp [Value.cells]; omega
        go_wp2
        go_ret
        have hkl := HLK.out
        rw [List.take_length] at hkl hO2
        have hkn : (keepT k ts).length = i := by rw [← hkl, List.length_take, HLL.out]; omega
        have hcur' := hcur.setRow (cur.toList.take (i * 2) ++ ((Builtin.zeroCells #[.int .i64 0, .int .i64 0] (ts.length - i)).toList ++ cur.toList.drop (i * 2 + (ts.length - i) * 2))).toArray
        refine ⟨_, ov2, rfl, ⟨thCells_len _, .inr ⟨g, cap, _, by rw [hkn]; rfl, Nat.zero_le _, hcur', by omega, by unfold maxLen; omega, ?_, ?_⟩⟩, rfl, ho2.farRow (by omega) _, ?_, ?_⟩
        · have := HCS.out
          simp [Builtin.zeroCells]
          omega
        · rw [hkn, ← hkl, ← thCells_take, ← HTK.out]
          have h1 : (cur.toList.take (i * 2)).length = i * 2 := by rw [List.length_take]; have := HCS.out; simp; omega
          rw [List.take_append_of_le_length (by omega), List.take_take, List.take_take, Nat.min_self, Nat.min_eq_left (by omega)]
        · refine own_chg hO2 ((Chg.refl [g] _).setRow (.inl (by simp)) _) (fun x hx => ?_)
          have := (hO2.lt x hx).1
          simp; omega
        · exact hbc.setRow (by omega) (.inl (by simp)) _

end Go.Proofs.Ytmmaklddbkdenaa
