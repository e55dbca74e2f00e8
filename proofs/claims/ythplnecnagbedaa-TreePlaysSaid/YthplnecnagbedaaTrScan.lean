/- Scan of the tree by contract; conditions: the tree is one, lies in memory. -/
import Derived.Test.YthplnecnagbedaaTrBody
import Derived.Laws.EntriesVeiled
import Derived.BigQuiet
import Derived.Shelf.RegionOpen
namespace Go.Proofs.Ythplnecnagbedaa
open Go.RowKit Go.Shelf

attribute [local go_sem] Oper.semAt_some

/-- append inside a round: kept whole, for the law. -/
def AppIn (F : Fence) (n : Nat) (P : Program) (o : Oper) (a : Act) (w : World) (K : Act → World → Prop) (Q : Exit → Act → World → Prop) : Prop := o.wpIn F n P a w K Q
theorem app_hide {F : Fence} {n : Nat} {P : Program} {a : Act} {w : World} {K : Act → World → Prop} {Q : Exit → Act → World → Prop} {p : String} {af : Array Edge} :
    Oper.wpIn F n P { dst := some 64, op := Op.call { callee := Callee.builtin Builtin.append, args := #[Operand.tmp 60, Operand.tmp 63], argTypes := #[63, 63] }, type := 63, pos := p, after := af, guard := none } a w K Q =
      AppIn F n P { dst := some 64, op := Op.call { callee := Callee.builtin Builtin.append, args := #[Operand.tmp 60, Operand.tmp 63], argTypes := #[63, 63] }, type := 63, pos := p, after := af, guard := none } a w K Q := rfl
theorem wpIn_at_zero {F : Fence} {n : Nat} {P : Program} {o : Oper} {l : List Oper} {h : 0 < (o :: l).toArray.size} {a : Act} {w : World} {K : Act → World → Prop} {Q : Exit → Act → World → Prop} : Oper.wpIn F n P ((o :: l).toArray[0]'h) a w K Q = Oper.wpIn F n P o a w K Q := rfl
theorem wpIn_at_succ {F : Fence} {n : Nat} {P : Program} {o : Oper} {l : List Oper} {j : Nat} {h : j + 1 < (o :: l).toArray.size} {a : Act} {w : World} {K : Act → World → Prop} {Q : Exit → Act → World → Prop} : Oper.wpIn F n P ((o :: l).toArray[j + 1]'h) a w K Q = Oper.wpIn F n P (l.toArray[j]'(by simpa using h)) a w K Q := rfl
attribute [local go_sem ↓] app_hide wpIn_at_zero wpIn_at_succ
theorem appIn_law {r n : Nat} {P : Program} {w : World} {o : Oper} {a : Act} {K : Act → World → Prop} {Q : Exit → Act → World → Prop} (s x : Operand) (t : TypeId)
    (ho : o.op = .call { callee := .builtin .append, args := #[s, x], argTypes := #[t, t] })
    (base : Nat) (e : TypeId) (i : TypeInfo) (z : Value) (size bytes : Nat) (ht : P.underlying t = some (.slice e)) (hi : P.info? e = some i) (hz : i.zero = some z)
    (hsize : i.size = size) (hby : i.bytes = bytes) (hzs : z.cells.size = size) (hsz : 0 < size)
    (v : Value) (m0 : Nat) (xs : List Value) (hs : a.eval s = v) (hown : w.ownsRow base e size v m0 xs)
    (ad : Addr) (m c : Nat) (news : List Value) (hx : a.eval x = .slice (some ad) m c) (hl : news.length = m * size) (hnews : ∀ j u, news[j]? = some u → w.cell? (ad.add j) = some u) (h1 : ∀ u ∈ news, u.oneCell' = true)
    (hm : 0 < m) (h63 : m0 + m ≤ maxLen) (hbytes : (m0 + m) * bytes ≤ 140737488355328) (hbase : base ≤ w.heap.size) (H : Nat) (hH : w.heap.size = H)
    (h : ∀ g cap w', w'.ownsRow base e size (.slice (some ⟨g, 0, none⟩) (m0 + m) cap) (m0 + m) (xs ++ news) → w.grownBy w' v.ownBlock → (v.ownBlock = some g ∨ g = H) → g < w'.heap.size → K (a.put o.dst (.slice (some ⟨g, 0, none⟩) (m0 + m) cap)) w') :
    AppIn (Fence.wide.inRound r) n P o a w K Q := by
  obtain ⟨g, cap, w', hr, q1, q2, q3, q4⟩ := run_append_lies (P := P) (w := w) t o.type base e i z size bytes ht hi hz hsize hby hzs hsz v m0 xs hown ad m c news hl hnews h1 hm h63 hbytes hbase H hH
  unfold AppIn Oper.wpIn
  refine ⟨fun _ _ => trivial, ?_⟩
  rw [Oper.semAt_eq _ _ _ (by rw [ho]; simp)]
  unfold execOp
  simp only [ho, resolve, invoke, builtin, Sem.run_bind, Sem.run_pure, Result.andThen_ok, List.map_toArray, List.map_cons, List.map_nil, hs, hx, hr]
  exact h g cap w' q1 q2 q3 q4

theorem ne_emp {k : ByteArray} (h : k ≠ emp) : k.toList.isEmpty = false := by
  cases hh : k.toList with
  | nil => exact absurd (ba_ext (by rw [hh, emp_toList])) h
  | cons a x => rfl
theorem Try.info118 : (Try.prog.info? 118).map (fun i => (i.zero, i.size, i.bytes)) = some (some (.agg #[.int .i64 0, .int .i64 0, .int .i64 0]), 3, 24) := by kernel_rfl
theorem Try.underlying63 : Try.prog.underlying 63 = some (.slice 118) := by kernel_rfl
theorem seen_mem {n1 k8 k9 k10 : Nat} {W W5 : World} {st : ScS} {a8 a9 a10 : Option Addr} {c8 c9 c10 q : Nat} (h : ScMem n1 k8 k9 k10 W st a8 c8 a9 c9 a10 c10) (hb : Below (W.drewN q).heap.size (W.drewN q) W5) : ScMem n1 k8 k9 k10 W5 st a8 c8 a9 c9 a10 c10 :=
  (h.below (below_drewN (Below.refl W.heap.size W) q)).below hb
theorem seen_done {w W W5 W6 : World} {B nn most n0 n1 q5 q6 q7 q12 k8 k9 k10 g d q : Nat} {M : TrM} {T : Tr} {fr tk : ByteArray} {st : ScS} {a8 a9 a10 : Option Addr} {c8 c9 c10 : Nat} {s : Nat × Nat × Nat}
    (hD : ScD M n0 n1 q5 q6 q7 q12 k8 k9 k10) (hC : ScC w B nn M T fr tk most n0 n1 q5 q6 q7 q12 k8 k9 W) (hM : ScMem n1 k8 k9 k10 W st a8 c8 a9 c9 a10 c10) (b5 : Below (W.drewN q).heap.size (W.drewN q) W5)
    (ho : W6.ownsRow n1 118 3 (.slice (some ⟨g, 0, none⟩) (st.S.length + 1) d) (st.S.length + 1) (seenCells st.S ++ (seenC s).toList)) (hg : (W5.alloc (.cells (seenC s) 118)).grownBy W6 (Value.slice a10 st.S.length c10).ownBlock)
    (hat : (Value.slice a10 st.S.length c10).ownBlock = some g ∨ g = (W5.alloc (.cells (seenC s) 118)).heap.size) :
    ScC w B nn M T fr tk most n0 n1 q5 q6 q7 q12 k8 k9 (W6.setCell ⟨k10, 0, none⟩ (.slice (some ⟨g, 0, none⟩) (st.S.length + 1) d)) ∧ BodyR [k8, k9, k10] W (W6.setCell ⟨k10, 0, none⟩ (.slice (some ⟨g, 0, none⟩) (st.S.length + 1) d)) ∧
      ScMem n1 k8 k9 k10 (W6.setCell ⟨k10, 0, none⟩ (.slice (some ⟨g, 0, none⟩) (st.S.length + 1) d)) ⟨st.A, st.S ++ [s]⟩ a8 c8 a9 c9 (some ⟨g, 0, none⟩) d := by
  have hM5 := seen_mem hM b5
  have hb6 := Blk.grown (hM5.b10.alloc (.cells (seenC s) 118)) hg (own_ne hM5.o10 hM5.b10 (by decide))
  have hs5 := b5.size
  have hc6 : Chg (k10 :: (Value.slice a10 st.S.length c10).ownBlock.toList) W W6 :=
    ((((Chg.refl (k10 :: (Value.slice a10 st.S.length c10).ownBlock.toList) W).drewN q).trans (Chg.of_below b5 []) (by simp)).alloc _).trans (Chg.of_grown hg (l := k10 :: (Value.slice a10 st.S.length c10).ownBlock.toList) (fun g e => .inl (by simp [e]))) (fun _ h => .inl h)
  exact seen_next hD hC hM (Blk.conv (hb6.set 0 _) rfl) (own_chg ho ((Chg.refl [k10] W6).setCell (.inl (by simp)) _) (fun q hq hm => by simp at hm; subst hm; exact own_ne ho hb6 (by decide) hq.symm)) (hat.imp id (fun e => by rw [e]; simp only [World.size_alloc]; have : (W.drewN q).heap.size = W.heap.size := rfl; omega)) (hc6.setCell (.inl (by simp)) _)
/-- Behind Scan. -/
def ScanTr (w : World) (st : ScS) (e : Ending) (w' : World) : Prop :=
  ∃ a8 c8 a9 c9 a10 c10, e = .returned (.tuple #[.slice a8 st.A.length c8, .slice a9 st.A.length c9, .slice a10 st.S.length c10, .int .i64 0]) ∧ w'.ownsRow w.heap.size 9 1 (.slice a8 st.A.length c8) st.A.length (st.A.map fun e => .string e.1) ∧
    w'.ownsRow w.heap.size 3 1 (.slice a9 st.A.length c9) st.A.length (st.A.map fun e => .int .i64 e.2) ∧ w'.ownsRow w.heap.size 118 3 (.slice a10 st.S.length c10) st.S.length (seenCells st.S) ∧ Below w.heap.size w w'
def stOf (fr : ByteArray) (E : List (Lf × ByteArray)) (l0 : Lf) (pre : List Nat) : ScS := (pre.map (evAt E l0)).foldl (stepS fr) sc0
theorem stOf_snoc (fr : ByteArray) (E : List (Lf × ByteArray)) (l0 : Lf) (pre : List Nat) (x : Nat) : stOf fr E l0 (pre ++ [x]) = stepS fr (stOf fr E l0 pre) (evAt E l0 x) := by simp [stOf]
/-- Between two rounds. -/
def ScI (w : World) (B nn : Nat) (M : TrM) (T : Tr) (fr tk : ByteArray) (most n0 n1 q5 q6 q7 q12 k8 k9 k10 : Nat) (E : List (Lf × ByteArray)) (l0 : Lf) (pre : List Nat) (W : World) : Prop :=
  ∃ a8 c8 a9 c9 a10 c10, ScC w B nn M T fr tk most n0 n1 q5 q6 q7 q12 k8 k9 W ∧ ScMem n1 k8 k9 k10 W (stOf fr E l0 pre) a8 c8 a9 c9 a10 c10 ∧ (stOf fr E l0 pre).A.length ≤ pre.length ∧ (stOf fr E l0 pre).S.length ≤ pre.length ∧ ∀ R, runS fr tk most (pre.map (evAt E l0) ++ R) sc0 = runS fr tk most R (stOf fr E l0 pre)
/-- A round has broken off. -/
def ScX (w : World) (B nn : Nat) (M : TrM) (T : Tr) (fr tk : ByteArray) (most n0 n1 q5 q6 q7 q12 k8 k9 k10 : Nat) (E : List (Lf × ByteArray)) (l0 : Lf) (c : Code) (pre : List Nat) (W : World) : Prop :=
  c = .exit 0 ∧ ∃ st a8 c8 a9 c9 a10 c10, ScC w B nn M T fr tk most n0 n1 q5 q6 q7 q12 k8 k9 W ∧ ScMem n1 k8 k9 k10 W st a8 c8 a9 c9 a10 c10 ∧ ∀ R, runS fr tk most (pre.map (evAt E l0) ++ R) sc0 = st
section
variable {w W W' : World} {B nn most n0 n1 q5 q6 q7 q12 k8 k9 k10 : Nat} {M : TrM} {T : Tr} {fr tk : ByteArray} {E : List (Lf × ByteArray)} {l0 : Lf} {pre : List Nat} {x : Nat}
theorem run_stop (hr : ∀ R, runS fr tk most (pre.map (evAt E l0) ++ R) sc0 = runS fr tk most R (stOf fr E l0 pre)) (hs : stopS tk most (stOf fr E l0 pre) (evAt E l0 x) = true) : ∀ R, runS fr tk most ((pre ++ [x]).map (evAt E l0) ++ R) sc0 = stOf fr E l0 pre := fun R => by
  rw [List.map_append, List.append_assoc]
  refine (hr _).trans ?_
  show runS fr tk most (evAt E l0 x :: R) _ = _
  unfold runS
  rw [if_pos hs]
theorem run_go (hr : ∀ R, runS fr tk most (pre.map (evAt E l0) ++ R) sc0 = runS fr tk most R (stOf fr E l0 pre)) (hs : stopS tk most (stOf fr E l0 pre) (evAt E l0 x) = false) : ∀ R, runS fr tk most ((pre ++ [x]).map (evAt E l0) ++ R) sc0 = runS fr tk most R (stOf fr E l0 (pre ++ [x])) := fun R => by
  rw [List.map_append, List.append_assoc, stOf_snoc]
  refine (hr _).trans ?_
  show runS fr tk most (evAt E l0 x :: R) _ = _
  conv => lhs; unfold runS
  rw [if_neg (by rw [hs]; simp)]
theorem ScI.own (hn : n0 ≤ n1) : OwnFrom n1 (ScI w B nn M T fr tk most n0 n1 q5 q6 q7 q12 k8 k9 k10 E l0) := fun _s _W _W' _row ⟨a8, c8, a9, c9, a10, c10, h1, h2, h3⟩ hg hr => ⟨a8, c8, a9, c9, a10, c10, h1.grown hn hg hr, h2.grown hg hr, h3⟩
theorem ScX.own (hn : n0 ≤ n1) (c : Code) : OwnFrom n1 (ScX w B nn M T fr tk most n0 n1 q5 q6 q7 q12 k8 k9 k10 E l0 c) := fun _s _W _W' _row ⟨hc, st, a8, c8, a9, c9, a10, c10, h1, h2, h3⟩ hg hr => ⟨hc, st, a8, c8, a9, c9, a10, c10, h1.grown hn hg hr, h2.grown hg hr, h3⟩
theorem evAt_in {T L : Tr} {l0 : Lf} (h0 : l0 ∈ T) (hL : ∀ l ∈ L, l ∈ T) (x : Nat) : (evAt (evT fr L) l0 x).1 ∈ T := by
  unfold evAt
  by_cases hx : x < (evT fr L).length
  · have : (evT fr L).getD x (l0, emp) = (evT fr L)[x] := by simp [List.getD, hx]
    rw [this]
    exact hL _ (ev_mem (List.getElem_mem hx))
  · have : (evT fr L).getD x (l0, emp) = (l0, emp) := by simp [List.getD, List.getElem?_eq_none (Nat.le_of_not_lt hx)]
    rw [this]; exact h0
theorem evT_len (L : Tr) (h : ∀ l ∈ L, NdOk l.nd) : (evT fr L).length ≤ L.length * 16 := by
  induction L with
  | nil => simp [evT]
  | cons l L ih =>
    have h1 := ih (fun m hm => h m (by simp [hm]))
    rw [evT_cons, List.length_append]
    have h2 : (evL fr l).length ≤ 16 := by
      unfold evL
      rw [List.length_cons, List.length_map]
      have h3 := List.length_filter_le (fun k => !bl k fr && decide (k ≠ emp)) (keysM l.nd)
      have h4 := keysM_len l.nd
      have h5 := (h l (by simp)).u15
      omega
    simp only [List.length_cons]
    omega
end

set_option maxRecDepth 100000 in
set_option maxHeartbeats 16000000 in
theorem scan_tr (w : World) (B nn : Nat) (M : TrM) (T : Tr) (ht : TrOk T) (hT : TreeAt B w M T nn) (hm : T.length ≤ 10001) (fr tk : ByteArray) (most : Nat) (hm1 : 1 ≤ most) (hm2 : most ≤ 4096) :
    Calls Try.prog 47 #[.pointer (some ⟨M.tb, 0, none⟩), .string fr, .string tk, .int .i64 most] w (ScanTr w (scanT T fr tk most)) := by
  refine (callsIn_wide (n := 6)).1 ?_
  refine callsIn_of_wp_marks Try.func47 rfl trivial ?_ rfl
  simp only [Try.ntmps47, List.size_toArray, List.length_cons, List.length_nil, Nat.reduceAdd, Nat.reduceSub, Array.replicate_succ, Array.replicate_zero, List.push_toArray, List.append_toArray, List.nil_append, List.cons_append]
  refine wpIn_wide.2 ?_
  have hmi : ¬ ((most : Int) < 1) := by omega
  have hmj : ¬ ((4096 : Int) < (most : Int)) := by omega
  have HT := Lib.hid hT
  clear hT
  go_wp2_with (go_at_call 65; refine (from_any _ M.tb fr).mono ?_; rintro e w3 ⟨rfl, rfl⟩)
  have hB5 : Blk (((((((((w.alloc (.cells #[.string fr] 9)).alloc (.cells #[.string tk] 9)).alloc (.cells #[.int .i64 (most : Nat)] 3)).alloc (.cells #[.slice none 0 0] 44)).alloc (.cells #[.slice none 0 0] 62)).alloc (.cells #[.slice none 0 0] 63)).alloc (.cells #[.func (.func 64) #[] #[.pointer (some ⟨w.heap.size + 1 + 1 + 1, 0, none⟩), .pointer (some ⟨w.heap.size + 1 + 1 + 1 + 1, 0, none⟩)]] 113)).alloc (.cells #[.pointer (some ⟨M.tb, 0, none⟩)] 58)).alloc (.cells #[.string fr] 9)) (w.heap.size) 9 #[.string fr] := (((((((((Blk.new w 9 #[.string fr]).alloc (.cells #[.string tk] 9)).alloc (.cells #[.int .i64 (most : Nat)] 3)).alloc (.cells #[.slice none 0 0] 44)).alloc (.cells #[.slice none 0 0] 62)).alloc (.cells #[.slice none 0 0] 63)).alloc (.cells #[.func (.func 64) #[] #[.pointer (some ⟨w.heap.size + 1 + 1 + 1, 0, none⟩), .pointer (some ⟨w.heap.size + 1 + 1 + 1 + 1, 0, none⟩)]] 113)).alloc (.cells #[.pointer (some ⟨M.tb, 0, none⟩)] 58)).alloc (.cells #[.string fr] 9))
  have hB6 : Blk (((((((((w.alloc (.cells #[.string fr] 9)).alloc (.cells #[.string tk] 9)).alloc (.cells #[.int .i64 (most : Nat)] 3)).alloc (.cells #[.slice none 0 0] 44)).alloc (.cells #[.slice none 0 0] 62)).alloc (.cells #[.slice none 0 0] 63)).alloc (.cells #[.func (.func 64) #[] #[.pointer (some ⟨w.heap.size + 1 + 1 + 1, 0, none⟩), .pointer (some ⟨w.heap.size + 1 + 1 + 1 + 1, 0, none⟩)]] 113)).alloc (.cells #[.pointer (some ⟨M.tb, 0, none⟩)] 58)).alloc (.cells #[.string fr] 9)) (w.heap.size + 1) 9 #[.string tk] := ((((((((Blk.new' (w.alloc (.cells #[.string fr] 9)) 9 #[.string tk] (by simp)).alloc (.cells #[.int .i64 (most : Nat)] 3)).alloc (.cells #[.slice none 0 0] 44)).alloc (.cells #[.slice none 0 0] 62)).alloc (.cells #[.slice none 0 0] 63)).alloc (.cells #[.func (.func 64) #[] #[.pointer (some ⟨w.heap.size + 1 + 1 + 1, 0, none⟩), .pointer (some ⟨w.heap.size + 1 + 1 + 1 + 1, 0, none⟩)]] 113)).alloc (.cells #[.pointer (some ⟨M.tb, 0, none⟩)] 58)).alloc (.cells #[.string fr] 9))
  have hB7 : Blk (((((((((w.alloc (.cells #[.string fr] 9)).alloc (.cells #[.string tk] 9)).alloc (.cells #[.int .i64 (most : Nat)] 3)).alloc (.cells #[.slice none 0 0] 44)).alloc (.cells #[.slice none 0 0] 62)).alloc (.cells #[.slice none 0 0] 63)).alloc (.cells #[.func (.func 64) #[] #[.pointer (some ⟨w.heap.size + 1 + 1 + 1, 0, none⟩), .pointer (some ⟨w.heap.size + 1 + 1 + 1 + 1, 0, none⟩)]] 113)).alloc (.cells #[.pointer (some ⟨M.tb, 0, none⟩)] 58)).alloc (.cells #[.string fr] 9)) (w.heap.size + 1 + 1) 3 #[.int .i64 (most : Nat)] := (((((((Blk.new' ((w.alloc (.cells #[.string fr] 9)).alloc (.cells #[.string tk] 9)) 3 #[.int .i64 (most : Nat)] (by simp)).alloc (.cells #[.slice none 0 0] 44)).alloc (.cells #[.slice none 0 0] 62)).alloc (.cells #[.slice none 0 0] 63)).alloc (.cells #[.func (.func 64) #[] #[.pointer (some ⟨w.heap.size + 1 + 1 + 1, 0, none⟩), .pointer (some ⟨w.heap.size + 1 + 1 + 1 + 1, 0, none⟩)]] 113)).alloc (.cells #[.pointer (some ⟨M.tb, 0, none⟩)] 58)).alloc (.cells #[.string fr] 9))
  have hB8 : Blk (((((((((w.alloc (.cells #[.string fr] 9)).alloc (.cells #[.string tk] 9)).alloc (.cells #[.int .i64 (most : Nat)] 3)).alloc (.cells #[.slice none 0 0] 44)).alloc (.cells #[.slice none 0 0] 62)).alloc (.cells #[.slice none 0 0] 63)).alloc (.cells #[.func (.func 64) #[] #[.pointer (some ⟨w.heap.size + 1 + 1 + 1, 0, none⟩), .pointer (some ⟨w.heap.size + 1 + 1 + 1 + 1, 0, none⟩)]] 113)).alloc (.cells #[.pointer (some ⟨M.tb, 0, none⟩)] 58)).alloc (.cells #[.string fr] 9)) (w.heap.size + 1 + 1 + 1) 44 #[.slice none 0 0] := ((((((Blk.new' (((w.alloc (.cells #[.string fr] 9)).alloc (.cells #[.string tk] 9)).alloc (.cells #[.int .i64 (most : Nat)] 3)) 44 #[.slice none 0 0] (by simp)).alloc (.cells #[.slice none 0 0] 62)).alloc (.cells #[.slice none 0 0] 63)).alloc (.cells #[.func (.func 64) #[] #[.pointer (some ⟨w.heap.size + 1 + 1 + 1, 0, none⟩), .pointer (some ⟨w.heap.size + 1 + 1 + 1 + 1, 0, none⟩)]] 113)).alloc (.cells #[.pointer (some ⟨M.tb, 0, none⟩)] 58)).alloc (.cells #[.string fr] 9))
  have hB9 : Blk (((((((((w.alloc (.cells #[.string fr] 9)).alloc (.cells #[.string tk] 9)).alloc (.cells #[.int .i64 (most : Nat)] 3)).alloc (.cells #[.slice none 0 0] 44)).alloc (.cells #[.slice none 0 0] 62)).alloc (.cells #[.slice none 0 0] 63)).alloc (.cells #[.func (.func 64) #[] #[.pointer (some ⟨w.heap.size + 1 + 1 + 1, 0, none⟩), .pointer (some ⟨w.heap.size + 1 + 1 + 1 + 1, 0, none⟩)]] 113)).alloc (.cells #[.pointer (some ⟨M.tb, 0, none⟩)] 58)).alloc (.cells #[.string fr] 9)) (w.heap.size + 1 + 1 + 1 + 1) 62 #[.slice none 0 0] := (((((Blk.new' ((((w.alloc (.cells #[.string fr] 9)).alloc (.cells #[.string tk] 9)).alloc (.cells #[.int .i64 (most : Nat)] 3)).alloc (.cells #[.slice none 0 0] 44)) 62 #[.slice none 0 0] (by simp)).alloc (.cells #[.slice none 0 0] 63)).alloc (.cells #[.func (.func 64) #[] #[.pointer (some ⟨w.heap.size + 1 + 1 + 1, 0, none⟩), .pointer (some ⟨w.heap.size + 1 + 1 + 1 + 1, 0, none⟩)]] 113)).alloc (.cells #[.pointer (some ⟨M.tb, 0, none⟩)] 58)).alloc (.cells #[.string fr] 9))
  have hB10 : Blk (((((((((w.alloc (.cells #[.string fr] 9)).alloc (.cells #[.string tk] 9)).alloc (.cells #[.int .i64 (most : Nat)] 3)).alloc (.cells #[.slice none 0 0] 44)).alloc (.cells #[.slice none 0 0] 62)).alloc (.cells #[.slice none 0 0] 63)).alloc (.cells #[.func (.func 64) #[] #[.pointer (some ⟨w.heap.size + 1 + 1 + 1, 0, none⟩), .pointer (some ⟨w.heap.size + 1 + 1 + 1 + 1, 0, none⟩)]] 113)).alloc (.cells #[.pointer (some ⟨M.tb, 0, none⟩)] 58)).alloc (.cells #[.string fr] 9)) (w.heap.size + 1 + 1 + 1 + 1 + 1) 63 #[.slice none 0 0] := ((((Blk.new' (((((w.alloc (.cells #[.string fr] 9)).alloc (.cells #[.string tk] 9)).alloc (.cells #[.int .i64 (most : Nat)] 3)).alloc (.cells #[.slice none 0 0] 44)).alloc (.cells #[.slice none 0 0] 62)) 63 #[.slice none 0 0] (by simp)).alloc (.cells #[.func (.func 64) #[] #[.pointer (some ⟨w.heap.size + 1 + 1 + 1, 0, none⟩), .pointer (some ⟨w.heap.size + 1 + 1 + 1 + 1, 0, none⟩)]] 113)).alloc (.cells #[.pointer (some ⟨M.tb, 0, none⟩)] 58)).alloc (.cells #[.string fr] 9))
  have hB12 : Blk (((((((((w.alloc (.cells #[.string fr] 9)).alloc (.cells #[.string tk] 9)).alloc (.cells #[.int .i64 (most : Nat)] 3)).alloc (.cells #[.slice none 0 0] 44)).alloc (.cells #[.slice none 0 0] 62)).alloc (.cells #[.slice none 0 0] 63)).alloc (.cells #[.func (.func 64) #[] #[.pointer (some ⟨w.heap.size + 1 + 1 + 1, 0, none⟩), .pointer (some ⟨w.heap.size + 1 + 1 + 1 + 1, 0, none⟩)]] 113)).alloc (.cells #[.pointer (some ⟨M.tb, 0, none⟩)] 58)).alloc (.cells #[.string fr] 9)) (w.heap.size + 1 + 1 + 1 + 1 + 1 + 1) 113 #[.func (.func 64) #[] #[.pointer (some ⟨w.heap.size + 1 + 1 + 1, 0, none⟩), .pointer (some ⟨w.heap.size + 1 + 1 + 1 + 1, 0, none⟩)]] := (((Blk.new' ((((((w.alloc (.cells #[.string fr] 9)).alloc (.cells #[.string tk] 9)).alloc (.cells #[.int .i64 (most : Nat)] 3)).alloc (.cells #[.slice none 0 0] 44)).alloc (.cells #[.slice none 0 0] 62)).alloc (.cells #[.slice none 0 0] 63)) 113 #[.func (.func 64) #[] #[.pointer (some ⟨w.heap.size + 1 + 1 + 1, 0, none⟩), .pointer (some ⟨w.heap.size + 1 + 1 + 1 + 1, 0, none⟩)]] (by simp)).alloc (.cells #[.pointer (some ⟨M.tb, 0, none⟩)] 58)).alloc (.cells #[.string fr] 9))
  have hBt : Blk (((((((((w.alloc (.cells #[.string fr] 9)).alloc (.cells #[.string tk] 9)).alloc (.cells #[.int .i64 (most : Nat)] 3)).alloc (.cells #[.slice none 0 0] 44)).alloc (.cells #[.slice none 0 0] 62)).alloc (.cells #[.slice none 0 0] 63)).alloc (.cells #[.func (.func 64) #[] #[.pointer (some ⟨w.heap.size + 1 + 1 + 1, 0, none⟩), .pointer (some ⟨w.heap.size + 1 + 1 + 1 + 1, 0, none⟩)]] 113)).alloc (.cells #[.pointer (some ⟨M.tb, 0, none⟩)] 58)).alloc (.cells #[.string fr] 9)) (w.heap.size + 1 + 1 + 1 + 1 + 1 + 1 + 1) 58 #[.pointer (some ⟨M.tb, 0, none⟩)] := ((Blk.new' (((((((w.alloc (.cells #[.string fr] 9)).alloc (.cells #[.string tk] 9)).alloc (.cells #[.int .i64 (most : Nat)] 3)).alloc (.cells #[.slice none 0 0] 44)).alloc (.cells #[.slice none 0 0] 62)).alloc (.cells #[.slice none 0 0] 63)).alloc (.cells #[.func (.func 64) #[] #[.pointer (some ⟨w.heap.size + 1 + 1 + 1, 0, none⟩), .pointer (some ⟨w.heap.size + 1 + 1 + 1 + 1, 0, none⟩)]] 113)) 58 #[.pointer (some ⟨M.tb, 0, none⟩)] (by simp)).alloc (.cells #[.string fr] 9))
  have hBk : Blk (((((((((w.alloc (.cells #[.string fr] 9)).alloc (.cells #[.string tk] 9)).alloc (.cells #[.int .i64 (most : Nat)] 3)).alloc (.cells #[.slice none 0 0] 44)).alloc (.cells #[.slice none 0 0] 62)).alloc (.cells #[.slice none 0 0] 63)).alloc (.cells #[.func (.func 64) #[] #[.pointer (some ⟨w.heap.size + 1 + 1 + 1, 0, none⟩), .pointer (some ⟨w.heap.size + 1 + 1 + 1 + 1, 0, none⟩)]] 113)).alloc (.cells #[.pointer (some ⟨M.tb, 0, none⟩)] 58)).alloc (.cells #[.string fr] 9)) (w.heap.size + 1 + 1 + 1 + 1 + 1 + 1 + 1 + 1) 9 #[.string fr] := (Blk.new' ((((((((w.alloc (.cells #[.string fr] 9)).alloc (.cells #[.string tk] 9)).alloc (.cells #[.int .i64 (most : Nat)] 3)).alloc (.cells #[.slice none 0 0] 44)).alloc (.cells #[.slice none 0 0] 62)).alloc (.cells #[.slice none 0 0] 63)).alloc (.cells #[.func (.func 64) #[] #[.pointer (some ⟨w.heap.size + 1 + 1 + 1, 0, none⟩), .pointer (some ⟨w.heap.size + 1 + 1 + 1 + 1, 0, none⟩)]] 113)).alloc (.cells #[.pointer (some ⟨M.tb, 0, none⟩)] 58)) 9 #[.string fr] (by simp))
  have hsz : (((((((((w.alloc (.cells #[.string fr] 9)).alloc (.cells #[.string tk] 9)).alloc (.cells #[.int .i64 (most : Nat)] 3)).alloc (.cells #[.slice none 0 0] 44)).alloc (.cells #[.slice none 0 0] 62)).alloc (.cells #[.slice none 0 0] 63)).alloc (.cells #[.func (.func 64) #[] #[.pointer (some ⟨w.heap.size + 1 + 1 + 1, 0, none⟩), .pointer (some ⟨w.heap.size + 1 + 1 + 1 + 1, 0, none⟩)]] 113)).alloc (.cells #[.pointer (some ⟨M.tb, 0, none⟩)] 58)).alloc (.cells #[.string fr] 9)).heap.size = w.heap.size + 9 := by simp
  have hbl : Below w.heap.size w (((((((((w.alloc (.cells #[.string fr] 9)).alloc (.cells #[.string tk] 9)).alloc (.cells #[.int .i64 (most : Nat)] 3)).alloc (.cells #[.slice none 0 0] 44)).alloc (.cells #[.slice none 0 0] 62)).alloc (.cells #[.slice none 0 0] 63)).alloc (.cells #[.func (.func 64) #[] #[.pointer (some ⟨w.heap.size + 1 + 1 + 1, 0, none⟩), .pointer (some ⟨w.heap.size + 1 + 1 + 1 + 1, 0, none⟩)]] 113)).alloc (.cells #[.pointer (some ⟨M.tb, 0, none⟩)] 58)).alloc (.cells #[.string fr] 9)) := ((((((((((Below.refl _ w).alloc (by simp) _).alloc (by first | (simp; done) | (simp; omega)) _).alloc (by first | (simp; done) | (simp; omega)) _).alloc (by first | (simp; done) | (simp; omega)) _).alloc (by first | (simp; done) | (simp; omega)) _).alloc (by first | (simp; done) | (simp; omega)) _).alloc (by first | (simp; done) | (simp; omega)) _).alloc (by first | (simp; done) | (simp; omega)) _).alloc (by first | (simp; done) | (simp; omega)) _)
  have hT3 := HT.out.below hbl
  generalize hW3 : (((((((((w.alloc (.cells #[.string fr] 9)).alloc (.cells #[.string tk] 9)).alloc (.cells #[.int .i64 (most : Nat)] 3)).alloc (.cells #[.slice none 0 0] 44)).alloc (.cells #[.slice none 0 0] 62)).alloc (.cells #[.slice none 0 0] 63)).alloc (.cells #[.func (.func 64) #[] #[.pointer (some ⟨w.heap.size + 1 + 1 + 1, 0, none⟩), .pointer (some ⟨w.heap.size + 1 + 1 + 1 + 1, 0, none⟩)]] 113)).alloc (.cells #[.pointer (some ⟨M.tb, 0, none⟩)] 58)).alloc (.cells #[.string fr] 9)) = W3 at *
  clear hW3
  generalize eqk : w.heap.size + 1 + 1 + 1 + 1 + 1 + 1 + 1 + 1 = qk at *
  generalize eqt : w.heap.size + 1 + 1 + 1 + 1 + 1 + 1 + 1 = qt at *
  generalize eq12 : w.heap.size + 1 + 1 + 1 + 1 + 1 + 1 = q12 at *
  generalize ek10 : w.heap.size + 1 + 1 + 1 + 1 + 1 = k10 at *
  generalize ek9 : w.heap.size + 1 + 1 + 1 + 1 = k9 at *
  generalize ek8 : w.heap.size + 1 + 1 + 1 = k8 at *
  generalize eq7 : w.heap.size + 1 + 1 = q7 at *
  generalize eq6 : w.heap.size + 1 = q6 at *
  obtain ⟨T1, lq, T2, ha, hf⟩ := findT_at ht fr
  have hl0 : lq ∈ T := ha.mem
  obtain ⟨E, hE⟩ : ∃ E, E = evT fr (T.drop (findT T fr)) := ⟨_, rfl⟩
  have hEN : E.length ≤ 160016 := by
    have h1 := evT_len (fr := fr) (T.drop (findT T fr)) (fun l hl => ht.ok l (List.mem_of_mem_drop hl))
    rw [List.length_drop] at h1
    rw [hE]; omega
  have hEin : ∀ x, (evAt E lq x).1 ∈ T := fun x => by rw [hE]; exact evAt_in hl0 (fun l hl => List.mem_of_mem_drop hl) x
  have hD : ScD M w.heap.size W3.heap.size w.heap.size q6 q7 q12 k8 k9 k10 := ⟨by omega, ⟨by omega, by omega, by omega⟩, ⟨by omega, by omega, by omega⟩, ⟨by omega, by omega, by omega, by omega⟩, ⟨by omega, by omega, by omega⟩, ⟨by omega, by omega, by omega⟩, ⟨by omega, by omega, by omega⟩, ⟨by omega, by omega, by omega⟩, fun q hq => HT.out.lt hq⟩
  have hC : ScC w B nn M T fr tk most w.heap.size W3.heap.size w.heap.size q6 q7 q12 k8 k9 W3 := ⟨hB5, hB6, hB7, hB12, hT3, hbl, Nat.le_refl _⟩
  have hM0 : ScMem W3.heap.size k8 k9 k10 W3 sc0 none 0 none 0 none 0 := ⟨⟨hB8, hB9, World.ownsRow_nil _ _ _ _, World.ownsRow_nil _ _ _ _, Nat.le_refl _⟩, hB10, World.ownsRow_nil _ _ _ _⟩
  have hI0 : ScI w B nn M T fr tk most w.heap.size W3.heap.size w.heap.size q6 q7 q12 k8 k9 k10 E lq [] W3 := ⟨none, 0, none, 0, none, 0, hC, hM0, Nat.le_refl _, Nat.le_refl _, fun R => rfl⟩
  have hLlt : ∀ c ∈ [k8, k9, k10], c < W3.heap.size := fun c hc => by simp at hc; omega
  have hR0 : ∀ k, ¬ Rch [k8, k9, k10] W3 k := fun k hr => by
    rcases rch3 (hB8.at 0 rfl) (hB9.at 0 rfl) (hB10.at 0 rfl) hr with h | h | h <;> cases h
  have hLF : ∀ q ∈ M.F, q ∉ [k8, k9, k10] := fun q hq hm => by have := HT.out.lt hq; simp at hm; omega
  have hqt : qt ∉ [k8, k9, k10] := by simp; omega
  have hqk : qk ∉ [k8, k9, k10] := by simp; omega
  have hseq : SeqStopsK Fence.wide 5 Try.prog 80 #[.pointer (some ⟨qt, 0, none⟩), .pointer (some ⟨qk, 0, none⟩)] (fun x : Nat => #[Value.pointer (some (⟨M.lb (evAt E lq x).1.num, 0, none⟩ : Addr)), Value.string (evAt E lq x).2]) (ScK [k8, k9, k10])
      (fun ys => ys = List.range E.length) (fun pre => ∃ c, c ≤ E.length ∧ pre = List.range c) E.length W3 := fun l J Jx W hW hJ hJx hY h0 => by
    have hsz2 := hW.size
    have hRW : ∀ k, ¬ Rch [k8, k9, k10] W k := fun k hr => by
      rcases rch3 ((hW.cell (p := ⟨k8, 0, none⟩) hB8.lt).trans (hB8.at 0 rfl)) ((hW.cell (p := ⟨k9, 0, none⟩) hB9.lt).trans (hB9.at 0 rfl)) ((hW.cell (p := ⟨k10, 0, none⟩) hB10.lt).trans (hB10.at 0 rfl)) hr with h | h | h <;> cases h
    rw [hE] at hY ⊢
    exact iter_in 5 (by omega) B nn M T ht (by omega) fr lq [k8, k9, k10] qt qk l J Jx W (hT3.below hW) (hBt.below hW hBt.lt) (hBk.below hW hBk.lt) (fun c hc => Nat.lt_of_lt_of_le (hLlt c hc) hsz2) hLF hqt hqk hRW hJ hY h0
  have HD := Lib.hid hD
  have HEin := Lib.hid hEin
  have HEN := Lib.hid hEN
  have HE := Lib.hid hE
  have HI0 := Lib.hid hI0
  have HLlt := Lib.hid hLlt
  have HSEQ := Lib.hid hseq
  have HSZ3 := Lib.hid hsz
  have HOK := Lib.hid ht
  have HALL := Lib.hid (And.intro hf ha)
  have HE1 := Lib.hid eqk
  have HE2 := Lib.hid eqt
  clear hD hEin hEN hE hI0 hLlt hseq hC hM0 hR0 hLF hqt hqk hB5 hB6 hB7 hB8 hB9 hB10 hB12 hBt hBk hT3 hbl hsz ht ha hf hl0 eqk eqt eq12 ek10 ek9 ek8 eq7 eq6
  refine (wpIn_wide (n := 6)).1 ?_
  refine wpIn_rangeFunc_ownF rfl (by omega) (gf := 80) (lb := #[.pointer (some ⟨qt, 0, none⟩), .pointer (some ⟨qk, 0, none⟩)]) rfl trivial (enters_of Try.func80 (by kernel_rfl) rfl) HSEQ.out
    (fun h1 h2 => h1.trans h2) (fun W l o o' hl ho hc _ => ScK.putObj HLlt.out hl ho hc o') (Below.refl _ _) (fun _ => rfl)
    (ScI w B nn M T fr tk most w.heap.size W3.heap.size w.heap.size q6 q7 q12 k8 k9 k10 E lq) (ScX w B nn M T fr tk most w.heap.size W3.heap.size w.heap.size q6 q7 q12 k8 k9 k10 E lq) (ScI.own HD.out.le) (ScX.own HD.out.le) HI0.out
    (fun x => { tmps := #[Value.pointer (some (⟨M.tb, 0, none⟩ : Addr)), Value.string fr, Value.string tk, Value.int IntKind.i64 (most : Int), undef, Value.pointer (some (⟨w.heap.size, 0, none⟩ : Addr)), Value.pointer (some (⟨q6, 0, none⟩ : Addr)), Value.pointer (some (⟨q7, 0, none⟩ : Addr)), Value.pointer (some (⟨k8, 0, none⟩ : Addr)), Value.pointer (some (⟨k9, 0, none⟩ : Addr)), Value.pointer (some (⟨k10, 0, none⟩ : Addr)), Value.int IntKind.i64 0, Value.pointer (some (⟨q12, 0, none⟩ : Addr)), Value.pointer (some (⟨M.lb (evAt E lq x).1.num, 0, none⟩ : Addr)), Value.string (evAt E lq x).2, undef, undef, Value.int IntKind.i64 (most : Int), Value.bool false, Value.bool false, Value.int IntKind.i64 (most : Int), Value.bool false, Value.bool false, Value.func (Fn.func 64) #[] #[Value.pointer (some (⟨k8, 0, none⟩ : Addr)), Value.pointer (some (⟨k9, 0, none⟩ : Addr))], Value.pointer (some (⟨M.tb, 0, none⟩ : Addr)), Value.string fr, Value.func (Fn.func 80) #[] #[Value.pointer (some (⟨qt, 0, none⟩ : Addr)), Value.pointer (some (⟨qk, 0, none⟩ : Addr))], Value.pointer (some (⟨M.lb (evAt E lq x).1.num, 0, none⟩ : Addr)), Value.string (evAt E lq x).2, undef, undef, undef, undef, undef, undef, undef, undef, undef, undef, undef, undef, undef, undef, undef, undef, undef, undef, undef, undef, undef, undef, undef, undef, undef, undef, undef, undef, undef, undef, undef, undef, undef, undef, undef, undef, undef, undef, undef, undef, undef, undef, undef, undef, undef, undef, undef, undef, undef, undef, undef, undef, undef, undef, undef], defers := [] }) ?assign ?body ?done ?stop
  case assign =>
    intro l x W K hK
    gi_wp2
    exact hK
  case body =>
    intro l pre x W hI hlen
    obtain ⟨a8, c8, a9, c9, a10, c10, hC, hM, hlA, hlS, hrun⟩ := hI
    have hin := HEin.out x
    have hstop := fun h => run_stop (x := x) hrun h
    have hgo := fun h => run_go (x := x) hrun h
    have hsn := stOf_snoc fr E lq pre x
    generalize hev : evAt E lq x = ev at *
    obtain ⟨lf, k⟩ := ev
    dsimp only at hin ⊢
    have HNX : ScI w B nn M T fr tk most w.heap.size W3.heap.size w.heap.size q6 q7 q12 k8 k9 k10 E lq (pre ++ [x]) = ScI w B nn M T fr tk most w.heap.size W3.heap.size w.heap.size q6 q7 q12 k8 k9 k10 E lq (pre ++ [x]) := rfl
    obtain ⟨st, hst⟩ : ∃ st, st = stOf fr E lq pre := ⟨_, rfl⟩
    rw [← hst] at hM hlA hlS hstop hgo hsn
    have hNN := HEN.out
    have hlt := hC.tree.leaf lf hin
    have hnd := hC.tree.node lf hin
    have e8 := hM.two.b8.at 0 rfl
    have e9 := hM.two.b9.at 0 rfl
    have e10 := hM.b10.at 0 rfl
    have e5 := hC.b5.at 0 rfl
    have e6 := hC.b6.at 0 rfl
    have e7 := hC.b7.at 0 rfl
    have e12 := hC.b12.at 0 rfl
    have el1 := hlt.at 1 rfl
    have el2 := hlt.at 2 rfl
    have hokl := HOK.out.ok lf hin
    obtain ⟨i118, hi118, hz0, hz1, hz2⟩ := info_parts Try.info118
    have HI118 := Lib.hid hi118
    clear hi118
    have mixed : Try.prog.follows .mixedOrders = true := by kernel_rfl
    have HC := Lib.hid hC
    have HM := Lib.hid hM
    have HST := Lib.hid hstop
    have HGO := Lib.hid hgo
    have HSN := Lib.hid hsn
    have HLT := Lib.hid hlt
    have HND := Lib.hid hnd
    have HOL := Lib.hid hokl
    have HIN := Lib.hid hin
    have HSS := Lib.hid hst
    have HEV := Lib.hid hev
    clear hC hM hstop hgo hsn hlt hnd hokl hin hst hrun hev HNX
    have hnA : st.A.length ≤ 200000 := by omega
    have hnS : st.S.length ≤ 200000 := by omega
    by_cases hA : st.A.length = most
    · have hq1 : ((st.A.length : Int) == (most : Int)) = true := by simp [hA]
      have hstp : stopS tk most st (lf, k) = true := by unfold stopS; simp [hA]
      have HX := Lib.hid (HST.out hstp)
      clear hstp hA

      gi_wp2
      refine wpIn_region_quietR (by kernel_rfl) (by kernel_rfl) (by kernel_rfl) ?_
      repeat (first | go_big_quiet_step (fail) | quiet_step (fail))
      refine wpQuiet_nil ?_
      intro _ hw'
      obtain ⟨nq, hw''⟩ := hw'
      subst hw''

      gi_wp2
      have hbw := below_drewN (Below.refl W.heap.size W) nq
      exact ⟨((BodyR.refl [k8, k9, k10] W).drewN nq).oth, rfl, st, a8, c8, a9, c9, a10, c10, HC.out.below HD.out.le hbw, HM.out.below hbw, HX.out⟩

    · have hq1 : ((st.A.length : Int) == (most : Int)) = false := by simp; omega
      by_cases ht0 : tk = emp
      · have hT1 : tk.toList.isEmpty = true := by rw [ht0, emp_toList]; rfl
        by_cases hk0 : k = emp
        · have hK1 : k.toList.isEmpty = true := by rw [hk0, emp_toList]; rfl
          have HKE := Lib.hid hk0
          have hstp : stopS tk most st (lf, k) = false := by unfold stopS; simp [hA, ht0]
          have HG := Lib.hid (HGO.out hstp)
          clear hstp hA ht0 hk0

          gi_wp2
          refine wpIn_region_quietR (by kernel_rfl) (by kernel_rfl) (by kernel_rfl) ?_
          repeat (first | go_big_quiet_step (fail) | quiet_step (fail))
          refine wpQuiet_nil ?_
          intro _ hw'
          obtain ⟨nq, hw''⟩ := hw'
          subst hw''

          have hbw := below_drewN (Below.refl W.heap.size W) nq
          have hCq := HC.out.below HD.out.le hbw
          have hMq := HM.out.below hbw
          have hRq := (BodyR.refl [k8, k9, k10] W).drewN nq
          have hSn : ∀ q, _ := fun q => seen_any (W.drewN q) (M.lb lf.num) (M.nb lf.num) lf.num lf.least lf.nd HOL.out.kl HOL.out.vl ((HLT.out).drewN q) ((HND.out).drewN q)
          have h10l := HM.out.b10.lt
          have h10f := HM.out.b10.free 0
          have HCQ := Lib.hid hCq
          have HMQ := Lib.hid hMq
          have HRQ := Lib.hid hRq
          have HSEEN := Lib.hid hSn
          clear hCq hMq hRq hSn
          generalize hins : lf.nd.ins = ins at *
          generalize hspl : lf.nd.spl = spl at *
          have HINS := Lib.hid hins
          have HSPL := Lib.hid hspl
          clear hins hspl
          gi_wp2
          gi_region_with_o (first
            | (refine ⟨trivial, ?_⟩; gi_at_call 66; refine (CallsIn.inRound l (callsIn_wide.2 (HSEEN.out _))).mono ?_; rintro e W5 ⟨rfl, b5⟩; have hM5 := seen_mem HM.out b5; have c5 := hM5.b10.at 0 rfl; have l5 := hM5.b10.lt)
            | (refine appIn_law (.tmp 60) (.tmp 63) 63 rfl W3.heap.size 118 i118 (.agg #[.int .i64 0, .int .i64 0, .int .i64 0]) 3 24 Try.underlying63 HI118.out hz0 hz1 hz2 rfl (by decide) (.slice a10 st.S.length c10) st.S.length (seenCells st.S) rfl (own_chg hM5.o10 ((Chg.refl [] W5).alloc _) (by simp)) ⟨W5.heap.size, 0, none⟩ 1 1 [.int .i64 (lf.num : Nat), .int .i64 (ins : Nat), .int .i64 (spl : Nat)] rfl rfl (fun j u hu => World.news_of_block (B := W5.heap.size) (t := 118) (fr := (0, 0)) (Blk.new W5 118 _) j u hu) (by intro u hu; simp at hu; rcases hu with rfl | rfl | rfl <;> rfl) (by decide) (by unfold maxLen; omega) (by omega) (Nat.le_trans hM5.two.sz (by simp)) _ rfl ?_; intro g10 d10 W6 ho6 hg6 hat6 hlt6; have hb6 := Blk.grown (hM5.b10.alloc (.cells #[.int .i64 (lf.num : Nat), .int .i64 (ins : Nat), .int .i64 (spl : Nat)] 118)) hg6 (own_ne hM5.o10 hM5.b10 (by decide)); have r10 := hb6.at 0 rfl; have f10 := hb6.free 0))
          all_goals
            obtain ⟨hC7, hR7, hM7⟩ := seen_done HD.out HC.out HM.out (s := (lf.num, ins, spl)) b5 ho6 hg6 hat6
            generalize W6.setCell ⟨k10, 0, none⟩ (Value.slice (some ⟨g10, 0, none⟩) (st.S.length + 1) d10) = W7 at *
            clear ho6 hg6 hat6 hb6 r10 f10 hlt6 c5 l5 hM5 b5
            have hn7 := hC7.tree.node lf HIN.out
            have f2 := (hC7.tree.leaf lf HIN.out).at 2 rfl
            have hG7 := get_any W7 (M.nb lf.num) lf.nd HOL.out hn7 ⟨#[]⟩
            have hsl : seenL lf = (lf.num, ins, spl) := by unfold seenL; rw [HINS.out, HSPL.out]
            have hB8 : ∀ W8, Below W7.heap.size W7 W8 → BodyR [k8, k9, k10] W7 W8 := fun W8 hb => BodyR.below (fun c hc => Nat.lt_of_lt_of_le (HLlt.out c hc) hC7.sz) hb
            have HSL := Lib.hid hsl
            have HB8 := Lib.hid hB8
            have HC7 := Lib.hid hC7
            have HR7 := Lib.hid hR7
            have HM7 := Lib.hid hM7
            clear hn7 hsl hB8 hC7 hR7 hM7
            cases hE : hasE lf.nd.ents emp with
            | true =>
              obtain ⟨v, hv⟩ : ∃ v, getM lf.nd ⟨#[]⟩ = (v, true) := ⟨_, getM_yes hE⟩
              rw [hv] at hG7
              by_cases hfe : fr = emp
              · have hF1 : fr.toList.isEmpty = true := by rw [hfe, emp_toList]; rfl
                have hnext : stOf fr E lq (pre ++ [x]) = ⟨st.A ++ [(emp, v)], st.S ++ [(lf.num, ins, spl)]⟩ := by
                  rw [HSN.out]; unfold stepS; rw [if_pos HKE.out]
                  have hv2 : (getM lf.nd emp).1 = v := by show (getM lf.nd ⟨#[]⟩).1 = v; rw [hv]
                  dsimp only
                  rw [hE, HSL.out, hv2]; simp [hfe]
                have HN := Lib.hid hnext
                have HV := Lib.hid hv
                clear hnext hE hfe hv
                gi_wp2_with (first
                  | (refine ⟨trivial, ?_⟩; gi_at_call 64; refine (CallsIn.inRound l (callsIn_wide.2 hT8)).mono ?_; intro e W9 hP; obtain ⟨rfl, hC9, hR9, b8', d8', b9', d9', hM9⟩ := tk_next HD.out hC8 hM8 hP)
                  | (refine ⟨trivial, ?_⟩; gi_at_call 27; refine (CallsIn.inRound l (callsIn_wide.2 hG7)).mono ?_; rintro e W8 ⟨rfl, b8⟩; have hC8 := HC7.out.below HD.out.le b8; have hM8 := HM7.out.below b8; have g5 := hC8.b5.at 0 rfl; have g12 := hC8.b12.at 0 rfl; have hT8 := take1_any W8 W3.heap.size k8 k9 (M.lb lf.num) (M.nb lf.num) lf.num lf.least lf.nd HOL.out (hC8.tree.leaf lf HIN.out) (hC8.tree.node lf HIN.out) ⟨#[]⟩ a8 a9 c8 c9 st.A.length _ _ (by omega) hM8.two))
                have hRR := (HR7.out.trans (HB8.out W8 b8)).trans hR9
                refine ⟨hRR.oth, hRR.sck, b8', d8', b9', d9', some ⟨g10, 0, none⟩, d10, hC9, ?_, ?_, ?_, HG.out⟩
                · rw [HN.out]
                  have hv := HV.out
                  rw [hv] at hM9
                  exact hM9
                · rw [HN.out]; simp; omega
                · rw [HN.out]; simp; omega
              · have hF1 : fr.toList.isEmpty = false := ne_emp hfe
                have hnext : stOf fr E lq (pre ++ [x]) = ⟨st.A, st.S ++ [(lf.num, ins, spl)]⟩ := by
                  rw [HSN.out]; unfold stepS; rw [if_pos HKE.out]
                  dsimp only
                  rw [HSL.out]; simp [hfe]
                have HN := Lib.hid hnext
                clear hnext hE hfe hv
                gi_wp2_with (refine ⟨trivial, ?_⟩; gi_at_call 27; refine (CallsIn.inRound l (callsIn_wide.2 hG7)).mono ?_; rintro e W8 ⟨rfl, b8⟩; have hC8 := HC7.out.below HD.out.le b8; have hM8 := HM7.out.below b8; have g5 := hC8.b5.at 0 rfl)
                have hRR := HR7.out.trans (HB8.out W8 b8)
                refine ⟨hRR.oth, hRR.sck, a8, c8, a9, c9, some ⟨g10, 0, none⟩, d10, hC8, ?_, ?_, ?_, HG.out⟩
                · rw [HN.out]; exact hM8
                · rw [HN.out]; simp; omega
                · rw [HN.out]; simp; omega
            | false =>
              have hv : getM lf.nd ⟨#[]⟩ = (0, false) := getM_no hE
              rw [hv] at hG7
              have hnext : stOf fr E lq (pre ++ [x]) = ⟨st.A, st.S ++ [(lf.num, ins, spl)]⟩ := by
                rw [HSN.out]; unfold stepS; rw [if_pos HKE.out]
                dsimp only
                rw [HSL.out, hE]; simp
              have HN := Lib.hid hnext
              clear hnext hE hv
              gi_wp2_with (refine ⟨trivial, ?_⟩; gi_at_call 27; refine (CallsIn.inRound l (callsIn_wide.2 hG7)).mono ?_; rintro e W8 ⟨rfl, b8⟩; have hC8 := HC7.out.below HD.out.le b8; have hM8 := HM7.out.below b8; have g5 := hC8.b5.at 0 rfl)
              have hRR := HR7.out.trans (HB8.out W8 b8)
              refine ⟨hRR.oth, hRR.sck, a8, c8, a9, c9, some ⟨g10, 0, none⟩, d10, hC8, ?_, ?_, ?_, HG.out⟩
              · rw [HN.out]; exact hM8
              · rw [HN.out]; simp; omega
              · rw [HN.out]; simp; omega

        · have hK1 : k.toList.isEmpty = false := ne_emp hk0
          have HKE := Lib.hid hk0
          have hstp : stopS tk most st (lf, k) = false := by unfold stopS; simp [hA, ht0]
          have HG := Lib.hid (HGO.out hstp)
          clear hstp hA ht0 hk0

          gi_wp2
          refine wpIn_region_quietR (by kernel_rfl) (by kernel_rfl) (by kernel_rfl) ?_
          repeat (first | go_big_quiet_step (fail) | quiet_step (fail))
          refine wpQuiet_nil ?_
          intro _ hw'
          obtain ⟨nq, hw''⟩ := hw'
          subst hw''

          have hbw := below_drewN (Below.refl W.heap.size W) nq
          have hCq := HC.out.below HD.out.le hbw
          have hMq := HM.out.below hbw
          have hRq := (BodyR.refl [k8, k9, k10] W).drewN nq
          have hnext : stOf fr E lq (pre ++ [x]) = ⟨st.A ++ [(k, (getM lf.nd k).1)], st.S⟩ := by rw [HSN.out]; unfold stepS; rw [if_neg HKE.out]
          have hTk := take1_any (W.drewN nq) W3.heap.size k8 k9 (M.lb lf.num) (M.nb lf.num) lf.num lf.least lf.nd HOL.out (hCq.tree.leaf lf HIN.out) (hCq.tree.node lf HIN.out) k a8 a9 c8 c9 st.A.length _ _ (by omega) hMq.two
          have HCQ := Lib.hid hCq
          have HMQ := Lib.hid hMq
          have HRQ := Lib.hid hRq
          have HN := Lib.hid hnext
          clear hCq hMq hRq hnext
          gi_wp2_with (refine ⟨trivial, ?_⟩; gi_at_call 64; refine (CallsIn.inRound l (callsIn_wide.2 hTk)).mono ?_; intro e W6 hP; obtain ⟨rfl, hC6, hR6, b8', d8', b9', d9', hM6⟩ := tk_next HD.out HCQ.out HMQ.out hP)
          have hRR := HRQ.out.trans hR6
          refine ⟨hRR.oth, hRR.sck, b8', d8', b9', d9', a10, c10, hC6, ?_, ?_, ?_, HG.out⟩
          · rw [HN.out]; exact hM6
          · rw [HN.out]; simp; omega
          · rw [HN.out]; simp; omega

      · have hT1 : tk.toList.isEmpty = false := ne_emp ht0
        cases hbk : bl k tk with
        | false =>
          have hK2 : Op.bytesLess k.toList tk.toList = false := hbk
          have hstp : stopS tk most st (lf, k) = true := by unfold stopS; simp [hA, ht0, hbk]
          have HX := Lib.hid (HST.out hstp)
          clear hstp hA ht0 hbk

          gi_wp2
          refine wpIn_region_quietR (by kernel_rfl) (by kernel_rfl) (by kernel_rfl) ?_
          repeat (first | go_big_quiet_step (fail) | quiet_step (fail))
          refine wpQuiet_nil ?_
          intro _ hw'
          obtain ⟨nq, hw''⟩ := hw'
          subst hw''

          gi_wp2
          have hbw := below_drewN (Below.refl W.heap.size W) nq
          exact ⟨((BodyR.refl [k8, k9, k10] W).drewN nq).oth, rfl, st, a8, c8, a9, c9, a10, c10, HC.out.below HD.out.le hbw, HM.out.below hbw, HX.out⟩

        | true =>
          have hK2 : Op.bytesLess k.toList tk.toList = true := hbk
          by_cases hk0 : k = emp
          · have hK1 : k.toList.isEmpty = true := by rw [hk0, emp_toList]; rfl
            have HKE := Lib.hid hk0
            cases hbl : bl lf.least tk with
            | false =>
              have hL2 : Op.bytesLess lf.least.toList tk.toList = false := hbl
              have hstp : stopS tk most st (lf, k) = true := by unfold stopS; simp [hA, ht0, hk0, hbl]
              have HX := Lib.hid (HST.out hstp)
              clear hstp hA ht0 hbk hk0 hbl

              gi_wp2
              refine wpIn_region_quietR (by kernel_rfl) (by kernel_rfl) (by kernel_rfl) ?_
              repeat (first | go_big_quiet_step (fail) | quiet_step (fail))
              refine wpQuiet_nil ?_
              intro _ hw'
              obtain ⟨nq, hw''⟩ := hw'
              subst hw''

              gi_wp2
              have hbw := below_drewN (Below.refl W.heap.size W) nq
              exact ⟨((BodyR.refl [k8, k9, k10] W).drewN nq).oth, rfl, st, a8, c8, a9, c9, a10, c10, HC.out.below HD.out.le hbw, HM.out.below hbw, HX.out⟩

            | true =>
              have hL2 : Op.bytesLess lf.least.toList tk.toList = true := hbl
              have hstp : stopS tk most st (lf, k) = false := by unfold stopS; simp [hA, hbk, hbl]
              have HG := Lib.hid (HGO.out hstp)
              clear hstp hA ht0 hbk hk0 hbl

              gi_wp2
              refine wpIn_region_quietR (by kernel_rfl) (by kernel_rfl) (by kernel_rfl) ?_
              repeat (first | go_big_quiet_step (fail) | quiet_step (fail))
              refine wpQuiet_nil ?_
              intro _ hw'
              obtain ⟨nq, hw''⟩ := hw'
              subst hw''

              have hbw := below_drewN (Below.refl W.heap.size W) nq
              have hCq := HC.out.below HD.out.le hbw
              have hMq := HM.out.below hbw
              have hRq := (BodyR.refl [k8, k9, k10] W).drewN nq
              have hSn : ∀ q, _ := fun q => seen_any (W.drewN q) (M.lb lf.num) (M.nb lf.num) lf.num lf.least lf.nd HOL.out.kl HOL.out.vl ((HLT.out).drewN q) ((HND.out).drewN q)
              have h10l := HM.out.b10.lt
              have h10f := HM.out.b10.free 0
              have HCQ := Lib.hid hCq
              have HMQ := Lib.hid hMq
              have HRQ := Lib.hid hRq
              have HSEEN := Lib.hid hSn
              clear hCq hMq hRq hSn
              generalize hins : lf.nd.ins = ins at *
              generalize hspl : lf.nd.spl = spl at *
              have HINS := Lib.hid hins
              have HSPL := Lib.hid hspl
              clear hins hspl
              gi_wp2
              gi_region_with_o (first
                | (refine ⟨trivial, ?_⟩; gi_at_call 66; refine (CallsIn.inRound l (callsIn_wide.2 (HSEEN.out _))).mono ?_; rintro e W5 ⟨rfl, b5⟩; have hM5 := seen_mem HM.out b5; have c5 := hM5.b10.at 0 rfl; have l5 := hM5.b10.lt)
                | (refine appIn_law (.tmp 60) (.tmp 63) 63 rfl W3.heap.size 118 i118 (.agg #[.int .i64 0, .int .i64 0, .int .i64 0]) 3 24 Try.underlying63 HI118.out hz0 hz1 hz2 rfl (by decide) (.slice a10 st.S.length c10) st.S.length (seenCells st.S) rfl (own_chg hM5.o10 ((Chg.refl [] W5).alloc _) (by simp)) ⟨W5.heap.size, 0, none⟩ 1 1 [.int .i64 (lf.num : Nat), .int .i64 (ins : Nat), .int .i64 (spl : Nat)] rfl rfl (fun j u hu => World.news_of_block (B := W5.heap.size) (t := 118) (fr := (0, 0)) (Blk.new W5 118 _) j u hu) (by intro u hu; simp at hu; rcases hu with rfl | rfl | rfl <;> rfl) (by decide) (by unfold maxLen; omega) (by omega) (Nat.le_trans hM5.two.sz (by simp)) _ rfl ?_; intro g10 d10 W6 ho6 hg6 hat6 hlt6; have hb6 := Blk.grown (hM5.b10.alloc (.cells #[.int .i64 (lf.num : Nat), .int .i64 (ins : Nat), .int .i64 (spl : Nat)] 118)) hg6 (own_ne hM5.o10 hM5.b10 (by decide)); have r10 := hb6.at 0 rfl; have f10 := hb6.free 0))
              all_goals
                obtain ⟨hC7, hR7, hM7⟩ := seen_done HD.out HC.out HM.out (s := (lf.num, ins, spl)) b5 ho6 hg6 hat6
                generalize W6.setCell ⟨k10, 0, none⟩ (Value.slice (some ⟨g10, 0, none⟩) (st.S.length + 1) d10) = W7 at *
                clear ho6 hg6 hat6 hb6 r10 f10 hlt6 c5 l5 hM5 b5
                have hn7 := hC7.tree.node lf HIN.out
                have f2 := (hC7.tree.leaf lf HIN.out).at 2 rfl
                have hG7 := get_any W7 (M.nb lf.num) lf.nd HOL.out hn7 ⟨#[]⟩
                have hsl : seenL lf = (lf.num, ins, spl) := by unfold seenL; rw [HINS.out, HSPL.out]
                have hB8 : ∀ W8, Below W7.heap.size W7 W8 → BodyR [k8, k9, k10] W7 W8 := fun W8 hb => BodyR.below (fun c hc => Nat.lt_of_lt_of_le (HLlt.out c hc) hC7.sz) hb
                have HSL := Lib.hid hsl
                have HB8 := Lib.hid hB8
                have HC7 := Lib.hid hC7
                have HR7 := Lib.hid hR7
                have HM7 := Lib.hid hM7
                clear hn7 hsl hB8 hC7 hR7 hM7
                cases hE : hasE lf.nd.ents emp with
                | true =>
                  obtain ⟨v, hv⟩ : ∃ v, getM lf.nd ⟨#[]⟩ = (v, true) := ⟨_, getM_yes hE⟩
                  rw [hv] at hG7
                  by_cases hfe : fr = emp
                  · have hF1 : fr.toList.isEmpty = true := by rw [hfe, emp_toList]; rfl
                    have hnext : stOf fr E lq (pre ++ [x]) = ⟨st.A ++ [(emp, v)], st.S ++ [(lf.num, ins, spl)]⟩ := by
                      rw [HSN.out]; unfold stepS; rw [if_pos HKE.out]
                      have hv2 : (getM lf.nd emp).1 = v := by show (getM lf.nd ⟨#[]⟩).1 = v; rw [hv]
                      dsimp only
                      rw [hE, HSL.out, hv2]; simp [hfe]
                    have HN := Lib.hid hnext
                    have HV := Lib.hid hv
                    clear hnext hE hfe hv
                    gi_wp2_with (first
                      | (refine ⟨trivial, ?_⟩; gi_at_call 64; refine (CallsIn.inRound l (callsIn_wide.2 hT8)).mono ?_; intro e W9 hP; obtain ⟨rfl, hC9, hR9, b8', d8', b9', d9', hM9⟩ := tk_next HD.out hC8 hM8 hP)
                      | (refine ⟨trivial, ?_⟩; gi_at_call 27; refine (CallsIn.inRound l (callsIn_wide.2 hG7)).mono ?_; rintro e W8 ⟨rfl, b8⟩; have hC8 := HC7.out.below HD.out.le b8; have hM8 := HM7.out.below b8; have g5 := hC8.b5.at 0 rfl; have g12 := hC8.b12.at 0 rfl; have hT8 := take1_any W8 W3.heap.size k8 k9 (M.lb lf.num) (M.nb lf.num) lf.num lf.least lf.nd HOL.out (hC8.tree.leaf lf HIN.out) (hC8.tree.node lf HIN.out) ⟨#[]⟩ a8 a9 c8 c9 st.A.length _ _ (by omega) hM8.two))
                    have hRR := (HR7.out.trans (HB8.out W8 b8)).trans hR9
                    refine ⟨hRR.oth, hRR.sck, b8', d8', b9', d9', some ⟨g10, 0, none⟩, d10, hC9, ?_, ?_, ?_, HG.out⟩
                    · rw [HN.out]
                      have hv := HV.out
                      rw [hv] at hM9
                      exact hM9
                    · rw [HN.out]; simp; omega
                    · rw [HN.out]; simp; omega
                  · have hF1 : fr.toList.isEmpty = false := ne_emp hfe
                    have hnext : stOf fr E lq (pre ++ [x]) = ⟨st.A, st.S ++ [(lf.num, ins, spl)]⟩ := by
                      rw [HSN.out]; unfold stepS; rw [if_pos HKE.out]
                      dsimp only
                      rw [HSL.out]; simp [hfe]
                    have HN := Lib.hid hnext
                    clear hnext hE hfe hv
                    gi_wp2_with (refine ⟨trivial, ?_⟩; gi_at_call 27; refine (CallsIn.inRound l (callsIn_wide.2 hG7)).mono ?_; rintro e W8 ⟨rfl, b8⟩; have hC8 := HC7.out.below HD.out.le b8; have hM8 := HM7.out.below b8; have g5 := hC8.b5.at 0 rfl)
                    have hRR := HR7.out.trans (HB8.out W8 b8)
                    refine ⟨hRR.oth, hRR.sck, a8, c8, a9, c9, some ⟨g10, 0, none⟩, d10, hC8, ?_, ?_, ?_, HG.out⟩
                    · rw [HN.out]; exact hM8
                    · rw [HN.out]; simp; omega
                    · rw [HN.out]; simp; omega
                | false =>
                  have hv : getM lf.nd ⟨#[]⟩ = (0, false) := getM_no hE
                  rw [hv] at hG7
                  have hnext : stOf fr E lq (pre ++ [x]) = ⟨st.A, st.S ++ [(lf.num, ins, spl)]⟩ := by
                    rw [HSN.out]; unfold stepS; rw [if_pos HKE.out]
                    dsimp only
                    rw [HSL.out, hE]; simp
                  have HN := Lib.hid hnext
                  clear hnext hE hv
                  gi_wp2_with (refine ⟨trivial, ?_⟩; gi_at_call 27; refine (CallsIn.inRound l (callsIn_wide.2 hG7)).mono ?_; rintro e W8 ⟨rfl, b8⟩; have hC8 := HC7.out.below HD.out.le b8; have hM8 := HM7.out.below b8; have g5 := hC8.b5.at 0 rfl)
                  have hRR := HR7.out.trans (HB8.out W8 b8)
                  refine ⟨hRR.oth, hRR.sck, a8, c8, a9, c9, some ⟨g10, 0, none⟩, d10, hC8, ?_, ?_, ?_, HG.out⟩
                  · rw [HN.out]; exact hM8
                  · rw [HN.out]; simp; omega
                  · rw [HN.out]; simp; omega

          · have hK1 : k.toList.isEmpty = false := ne_emp hk0
            have HKE := Lib.hid hk0
            have hstp : stopS tk most st (lf, k) = false := by unfold stopS; simp [hA, hbk, hk0]
            have HG := Lib.hid (HGO.out hstp)
            clear hstp hA ht0 hbk hk0

            gi_wp2
            refine wpIn_region_quietR (by kernel_rfl) (by kernel_rfl) (by kernel_rfl) ?_
            repeat (first | go_big_quiet_step (fail) | quiet_step (fail))
            refine wpQuiet_nil ?_
            intro _ hw'
            obtain ⟨nq, hw''⟩ := hw'
            subst hw''

            have hbw := below_drewN (Below.refl W.heap.size W) nq
            have hCq := HC.out.below HD.out.le hbw
            have hMq := HM.out.below hbw
            have hRq := (BodyR.refl [k8, k9, k10] W).drewN nq
            have hnext : stOf fr E lq (pre ++ [x]) = ⟨st.A ++ [(k, (getM lf.nd k).1)], st.S⟩ := by rw [HSN.out]; unfold stepS; rw [if_neg HKE.out]
            have hTk := take1_any (W.drewN nq) W3.heap.size k8 k9 (M.lb lf.num) (M.nb lf.num) lf.num lf.least lf.nd HOL.out (hCq.tree.leaf lf HIN.out) (hCq.tree.node lf HIN.out) k a8 a9 c8 c9 st.A.length _ _ (by omega) hMq.two
            have HCQ := Lib.hid hCq
            have HMQ := Lib.hid hMq
            have HRQ := Lib.hid hRq
            have HN := Lib.hid hnext
            clear hCq hMq hRq hnext
            gi_wp2_with (refine ⟨trivial, ?_⟩; gi_at_call 64; refine (CallsIn.inRound l (callsIn_wide.2 hTk)).mono ?_; intro e W6 hP; obtain ⟨rfl, hC6, hR6, b8', d8', b9', d9', hM6⟩ := tk_next HD.out HCQ.out HMQ.out hP)
            have hRR := HRQ.out.trans hR6
            refine ⟨hRR.oth, hRR.sck, b8', d8', b9', d9', a10, c10, hC6, ?_, ?_, ?_, HG.out⟩
            · rw [HN.out]; exact hM6
            · rw [HN.out]; simp; omega
            · rw [HN.out]; simp; omega
  case done =>
    rintro D ys W hD rfl ⟨a8, c8, a9, c9, a10, c10, hC, hM, hlA, hlS, hrun⟩ hK
    have hfin : scanT T fr tk most = stOf fr E lq (List.range E.length) := by
      have h1 := hrun []
      rw [evAt_range E lq (Nat.le_refl _), List.take_length, List.append_nil] at h1
      unfold scanT
      rw [← HE.out]
      exact h1
    clear hrun
    generalize stOf fr E lq (List.range E.length) = st at *
    have e8 := hM.two.b8.at 0 rfl
    have e9 := hM.two.b9.at 0 rfl
    have e10 := hM.b10.at 0 rfl
    have f8 := hM.two.b8.free 0
    have f9 := hM.two.b9.free 0
    have f10 := hM.b10.free 0
    have hne1 : ¬ (k8 = k9) := Blk.ne hM.two.b8 hM.two.b9 (by decide)
    have hne2 : ¬ (k9 = k8) := fun e => hne1 e.symm
    have hne3 : ¬ (k8 = k10) := Blk.ne hM.two.b8 hM.b10 (by decide)
    have hne4 : ¬ (k10 = k8) := fun e => hne3 e.symm
    have hne5 : ¬ (k9 = k10) := Blk.ne hM.two.b9 hM.b10 (by decide)
    have hne6 : ¬ (k10 = k9) := fun e => hne5 e.symm
    have HC := Lib.hid hC
    have HM := Lib.hid hM
    have HFIN := Lib.hid hfin
    clear hC hM hfin
    go_upto_region 14 with fail
    go_region
    all_goals
      go_wp2_with fail
      have hW : Chg [k8, k9, k10] W ((((W.setCell ⟨k8, 0, none⟩ (.slice a8 st.A.length c8)).setCell ⟨k9, 0, none⟩ (.slice a9 st.A.length c9)).setCell ⟨k10, 0, none⟩ (.slice a10 st.S.length c10)).drew) := ((((Chg.refl _ W).setCell (.inl (by simp)) _).setCell (.inl (by simp)) _).setCell (.inl (by simp)) _).drew
      have hg8 : Blk ((((W.setCell ⟨k8, 0, none⟩ (.slice a8 st.A.length c8)).setCell ⟨k9, 0, none⟩ (.slice a9 st.A.length c9)).setCell ⟨k10, 0, none⟩ (.slice a10 st.S.length c10)).drew) k8 44 #[.slice a8 st.A.length c8] := (Blk.conv (((HM.out.two.b8.set 0 _).far (show k8 ≠ k9 from hne1) _).far (show k8 ≠ k10 from hne3) _) rfl).drew
      have hg9 : Blk ((((W.setCell ⟨k8, 0, none⟩ (.slice a8 st.A.length c8)).setCell ⟨k9, 0, none⟩ (.slice a9 st.A.length c9)).setCell ⟨k10, 0, none⟩ (.slice a10 st.S.length c10)).drew) k9 62 #[.slice a9 st.A.length c9] := (Blk.conv (((HM.out.two.b9.far (show k9 ≠ k8 from hne2) _).set 0 _).far (show k9 ≠ k10 from hne5) _) rfl).drew
      have hg10 : Blk ((((W.setCell ⟨k8, 0, none⟩ (.slice a8 st.A.length c8)).setCell ⟨k9, 0, none⟩ (.slice a9 st.A.length c9)).setCell ⟨k10, 0, none⟩ (.slice a10 st.S.length c10)).drew) k10 63 #[.slice a10 st.S.length c10] := (Blk.conv (((HM.out.b10.far (show k10 ≠ k8 from hne4) _).far (show k10 ≠ k9 from hne6) _).set 0 _) rfl).drew
      have ho8 := own_chg HM.out.two.o8 hW (fun q hq hm => by simp at hm; rcases hm with rfl | rfl | rfl; exact own_ne HM.out.two.o8 HM.out.two.b8 (by decide) hq.symm; exact own_ne HM.out.two.o8 HM.out.two.b9 (by decide) hq.symm; exact own_ne HM.out.two.o8 HM.out.b10 (by decide) hq.symm)
      have ho9 := own_chg HM.out.two.o9 hW (fun q hq hm => by simp at hm; rcases hm with rfl | rfl | rfl; exact own_ne HM.out.two.o9 HM.out.two.b8 (by decide) hq.symm; exact own_ne HM.out.two.o9 HM.out.two.b9 (by decide) hq.symm; exact own_ne HM.out.two.o9 HM.out.b10 (by decide) hq.symm)
      have ho10 := own_chg HM.out.o10 hW (fun q hq hm => by simp at hm; rcases hm with rfl | rfl | rfl; exact own_ne HM.out.o10 HM.out.two.b8 (by decide) hq.symm; exact own_ne HM.out.o10 HM.out.two.b9 (by decide) hq.symm; exact own_ne HM.out.o10 HM.out.b10 (by decide) hq.symm)
      have hKD : ((((W.setCell ⟨k8, 0, none⟩ (.slice a8 st.A.length c8)).setCell ⟨k9, 0, none⟩ (.slice a9 st.A.length c9)).setCell ⟨k10, 0, none⟩ (.slice a10 st.S.length c10)).drew).heap[D]? = some (.deferred (some [])) := (((KeepsOthers.setCell W _ _).trans (KeepsOthers.setCell _ _ _)).trans (KeepsOthers.setCell _ _ _)).same D _ hK rfl
      have hWB := HC.out.bel.trans (hW.below (B := w.heap.size) (by have := HC.out.sz; have := HD.out.le; omega) (fun q hq => by have := HD.out.k; simp at hq; rcases hq with rfl | rfl | rfl <;> omega))
      have hCsz := HC.out.sz
      have hWs := hW.size
      generalize (((W.setCell ⟨k8, 0, none⟩ (.slice a8 st.A.length c8)).setCell ⟨k9, 0, none⟩ (.slice a9 st.A.length c9)).setCell ⟨k10, 0, none⟩ (.slice a10 st.S.length c10)).drew = Wf at *
      have hgr := grownBy_putObj' Wf D (.deferred none)
      have hrr : ∀ r, some D = some r → W3.heap.size ≤ r ∧ ∃ o : Obj, Wf.heap[r]? = some o ∧ o.isCells = false := fun r e => by injection e with e; subst e; exact ⟨hD, _, hKD, rfl⟩
      have z8 := (Blk.grown hg8 hgr (blk_own hg8 hgr hrr)).at 0 rfl
      have z9 := (Blk.grown hg9 hgr (blk_own hg9 hgr hrr)).at 0 rfl
      have z10 := (Blk.grown hg10 hgr (blk_own hg10 hgr hrr)).at 0 rfl
      have hle : w.heap.size ≤ W3.heap.size := HD.out.le
      refine ⟨by simp, .inl ⟨_, _, rfl, run_takeDeferred (by exact hKD), ?_⟩⟩
      refine ⟨.tuple #[.slice a8 st.A.length c8, .slice a9 st.A.length c9, .slice a10 st.S.length c10, .int .i64 0], by simp [results, Try.results47, go_sem, z8, z9, z10], ?_⟩
      rw [HFIN.out]
      exact ⟨a8, c8, a9, c9, a10, c10, rfl, own_mono (own_grown ho8 hgr hrr) hle, own_mono (own_grown ho9 hgr hrr) hle, own_mono (own_grown ho10 hgr hrr) hle, hWB.grown hgr (by omega) (fun r e => by have := (hrr r e).1; omega)⟩
  case stop =>
    rintro D c pre W hD ⟨c0, hc0, rfl⟩ ⟨rfl, st, a8, c8, a9, c9, a10, c10, hC, hM, hrun⟩ hK
    have hfin : scanT T fr tk most = st := by
      have h1 := hrun (E.drop c0)
      rw [evAt_range E lq hc0, List.take_append_drop] at h1
      unfold scanT
      rw [← HE.out]
      exact h1
    clear hrun
    have e8 := hM.two.b8.at 0 rfl
    have e9 := hM.two.b9.at 0 rfl
    have e10 := hM.b10.at 0 rfl
    have f8 := hM.two.b8.free 0
    have f9 := hM.two.b9.free 0
    have f10 := hM.b10.free 0
    have hne1 : ¬ (k8 = k9) := Blk.ne hM.two.b8 hM.two.b9 (by decide)
    have hne2 : ¬ (k9 = k8) := fun e => hne1 e.symm
    have hne3 : ¬ (k8 = k10) := Blk.ne hM.two.b8 hM.b10 (by decide)
    have hne4 : ¬ (k10 = k8) := fun e => hne3 e.symm
    have hne5 : ¬ (k9 = k10) := Blk.ne hM.two.b9 hM.b10 (by decide)
    have hne6 : ¬ (k10 = k9) := fun e => hne5 e.symm
    have HC := Lib.hid hC
    have HM := Lib.hid hM
    have HFIN := Lib.hid hfin
    clear hC hM hfin
    refine wpIn_wide.2 ?_
    go_upto_region 14 with fail
    go_region
    all_goals
      go_wp2_with fail
      have hW : Chg [k8, k9, k10] W ((((W.setCell ⟨k8, 0, none⟩ (.slice a8 st.A.length c8)).setCell ⟨k9, 0, none⟩ (.slice a9 st.A.length c9)).setCell ⟨k10, 0, none⟩ (.slice a10 st.S.length c10)).drew) := ((((Chg.refl _ W).setCell (.inl (by simp)) _).setCell (.inl (by simp)) _).setCell (.inl (by simp)) _).drew
      have hg8 : Blk ((((W.setCell ⟨k8, 0, none⟩ (.slice a8 st.A.length c8)).setCell ⟨k9, 0, none⟩ (.slice a9 st.A.length c9)).setCell ⟨k10, 0, none⟩ (.slice a10 st.S.length c10)).drew) k8 44 #[.slice a8 st.A.length c8] := (Blk.conv (((HM.out.two.b8.set 0 _).far (show k8 ≠ k9 from hne1) _).far (show k8 ≠ k10 from hne3) _) rfl).drew
      have hg9 : Blk ((((W.setCell ⟨k8, 0, none⟩ (.slice a8 st.A.length c8)).setCell ⟨k9, 0, none⟩ (.slice a9 st.A.length c9)).setCell ⟨k10, 0, none⟩ (.slice a10 st.S.length c10)).drew) k9 62 #[.slice a9 st.A.length c9] := (Blk.conv (((HM.out.two.b9.far (show k9 ≠ k8 from hne2) _).set 0 _).far (show k9 ≠ k10 from hne5) _) rfl).drew
      have hg10 : Blk ((((W.setCell ⟨k8, 0, none⟩ (.slice a8 st.A.length c8)).setCell ⟨k9, 0, none⟩ (.slice a9 st.A.length c9)).setCell ⟨k10, 0, none⟩ (.slice a10 st.S.length c10)).drew) k10 63 #[.slice a10 st.S.length c10] := (Blk.conv (((HM.out.b10.far (show k10 ≠ k8 from hne4) _).far (show k10 ≠ k9 from hne6) _).set 0 _) rfl).drew
      have ho8 := own_chg HM.out.two.o8 hW (fun q hq hm => by simp at hm; rcases hm with rfl | rfl | rfl; exact own_ne HM.out.two.o8 HM.out.two.b8 (by decide) hq.symm; exact own_ne HM.out.two.o8 HM.out.two.b9 (by decide) hq.symm; exact own_ne HM.out.two.o8 HM.out.b10 (by decide) hq.symm)
      have ho9 := own_chg HM.out.two.o9 hW (fun q hq hm => by simp at hm; rcases hm with rfl | rfl | rfl; exact own_ne HM.out.two.o9 HM.out.two.b8 (by decide) hq.symm; exact own_ne HM.out.two.o9 HM.out.two.b9 (by decide) hq.symm; exact own_ne HM.out.two.o9 HM.out.b10 (by decide) hq.symm)
      have ho10 := own_chg HM.out.o10 hW (fun q hq hm => by simp at hm; rcases hm with rfl | rfl | rfl; exact own_ne HM.out.o10 HM.out.two.b8 (by decide) hq.symm; exact own_ne HM.out.o10 HM.out.two.b9 (by decide) hq.symm; exact own_ne HM.out.o10 HM.out.b10 (by decide) hq.symm)
      have hKD : ((((W.setCell ⟨k8, 0, none⟩ (.slice a8 st.A.length c8)).setCell ⟨k9, 0, none⟩ (.slice a9 st.A.length c9)).setCell ⟨k10, 0, none⟩ (.slice a10 st.S.length c10)).drew).heap[D]? = some (.deferred (some [])) := (((KeepsOthers.setCell W _ _).trans (KeepsOthers.setCell _ _ _)).trans (KeepsOthers.setCell _ _ _)).same D _ hK rfl
      have hWB := HC.out.bel.trans (hW.below (B := w.heap.size) (by have := HC.out.sz; have := HD.out.le; omega) (fun q hq => by have := HD.out.k; simp at hq; rcases hq with rfl | rfl | rfl <;> omega))
      have hCsz := HC.out.sz
      have hWs := hW.size
      generalize (((W.setCell ⟨k8, 0, none⟩ (.slice a8 st.A.length c8)).setCell ⟨k9, 0, none⟩ (.slice a9 st.A.length c9)).setCell ⟨k10, 0, none⟩ (.slice a10 st.S.length c10)).drew = Wf at *
      have hgr := grownBy_putObj' Wf D (.deferred none)
      have hrr : ∀ r, some D = some r → W3.heap.size ≤ r ∧ ∃ o : Obj, Wf.heap[r]? = some o ∧ o.isCells = false := fun r e => by injection e with e; subst e; exact ⟨hD, _, hKD, rfl⟩
      have z8 := (Blk.grown hg8 hgr (blk_own hg8 hgr hrr)).at 0 rfl
      have z9 := (Blk.grown hg9 hgr (blk_own hg9 hgr hrr)).at 0 rfl
      have z10 := (Blk.grown hg10 hgr (blk_own hg10 hgr hrr)).at 0 rfl
      have hle : w.heap.size ≤ W3.heap.size := HD.out.le
      refine ⟨by simp, .inl ⟨_, _, rfl, run_takeDeferred (by exact hKD), ?_⟩⟩
      refine ⟨.tuple #[.slice a8 st.A.length c8, .slice a9 st.A.length c9, .slice a10 st.S.length c10, .int .i64 0], by simp [results, Try.results47, go_sem, z8, z9, z10], ?_⟩
      rw [HFIN.out]
      exact ⟨a8, c8, a9, c9, a10, c10, rfl, own_mono (own_grown ho8 hgr hrr) hle, own_mono (own_grown ho9 hgr hrr) hle, own_mono (own_grown ho10 hgr hrr) hle, hWB.grown hgr (by omega) (fun r e => by have := (hrr r e).1; omega)⟩

end Go.Proofs.Ythplnecnagbedaa
