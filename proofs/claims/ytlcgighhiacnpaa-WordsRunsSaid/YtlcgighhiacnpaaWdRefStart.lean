/- The document's Run: what its walk leans on; conditions: none. -/
import Derived.Test.YtlcgighhiacnpaaWdRefDo
import Derived.Test.YtlcgighhiacnpaaWdAppend
namespace Go.Proofs.Ytlcgighhiacnpaa
open Go.RowKit

theorem runD_err {T : List (List Ins)} {C : List Nat} {P : List Int} (h : (chk T C.length).2.2 ≠ 0) : runD T C P = (rep0, (chk T C.length).2.2) := by unfold runD; rw [if_pos h]
theorem runD_long {T : List (List Ins)} {C : List Nat} {P : List Int} (h : (chk T C.length).2.2 = 0) (h2 : 1048576 < P.length) : runD T C P = (rep0, 2) := by unfold runD; rw [if_neg (by simp [h]), if_pos h2]
theorem runD_rest {T : List (List Ins)} {C : List Nat} {P : List Int} (h : (chk T C.length).2.2 = 0) (h2 : ¬ 1048576 < P.length) : runD T C P = match P.any fun x => decide (x < 0 ∨ (T.length : Int) ≤ x) with
    | true => (rep0, 1)
    | false => (repR T (runR T C P), 0) := by unfold runD; rw [if_neg (by simp [h]), if_neg h2]; rfl

/-- append as one step of a region that draws: what is appended came in, nil or not. -/
theorem step_append_opt {P : Program} {ops : Array Oper} {o : Oper} {a : Act} {w : World} {K : Act → World → Prop} {Q : Exit → Act → World → Prop} {E : Prop} (hgd : o.guard = none) (s x : Operand) (t : TypeId)
    (ho : o.op = .call { callee := .builtin .append, args := #[s, x], argTypes := #[t, t] })
    (base : Nat) (e : TypeId) (i : TypeInfo) (z : Value) (size bytes : Nat) (ht : P.underlying t = some (.slice e)) (hi : P.info? e = some i) (hz : i.zero = some z)
    (hsize : i.size = size) (hby : i.bytes = bytes) (hzs : z.cells.size = size) (hsz : 0 < size)
    (v : Value) (n : Nat) (xs : List Value) (hs : a.eval s = v) (ao : Option Addr) (m c : Nat) (news : List Value) (hx : a.eval x = .slice ao m c) (hl : news.length = m * size) (h1 : ∀ u ∈ news, u.oneCell' = true)
    (h63 : n + m ≤ maxLen) (hbytes : (n + m) * bytes ≤ 140737488355328) (hown : w.ownsRow base e size v n xs) (hnews : ∀ j u, news[j]? = some u → ∃ ad, ao = some ad ∧ w.cell? (ad.add j) = some u) (hbase : base ≤ w.heap.size)
    (h : ∀ (ao' : Option Addr) (cap' : Nat) w', w'.ownsRow base e size (.slice ao' (n + m) cap') (n + m) (xs ++ news) → w.grownBy w' v.ownBlock → K (a.put o.dst (.slice ao' (n + m) cap')) w') :
    if Region.wanted o (yielded ops a.tmps) = true then Oper.wp P o a w K Q else E := by
  have hw : Region.wanted o (yielded ops a.tmps) = true := by simp [Region.wanted, hgd]
  rw [if_pos hw]
  have key : ∃ v' w', (Builtin.append_ #[t, t] o.type #[v, .slice ao m c]).run P w = .ok v' w' ∧ w'.ownsRow base e size v' (n + m) (xs ++ news) ∧ w.grownBy w' v.ownBlock := by
    cases ao with
    | some ad =>
      obtain ⟨v', w', hr, h2, h3, _, _⟩ := run_append_own_at (P := P) w base t o.type e i z size bytes ht hi hz hsize hby hzs hsz v n xs hown ad m c news hl (fun j u hu => by
        obtain ⟨ad', e1, hc⟩ := hnews j u hu
        injection e1 with e1
        rw [e1]; exact hc) h1 h63 hbytes hbase
      exact ⟨v', w', hr, h2, h3⟩
    | none =>
      have hm : m = 0 := by
        rcases Nat.eq_zero_or_pos m with h0 | h0
        · exact h0
        · have hlt : 0 < news.length := by rw [hl]; exact Nat.mul_pos h0 hsz
          obtain ⟨_, e1, _⟩ := hnews 0 _ (List.getElem?_eq_getElem hlt)
          cases e1
      subst hm
      have hn : news = [] := List.eq_nil_of_length_eq_zero (by simpa using hl)
      subst hn
      exact ⟨v, w, run_append_none (P := P) w base t o.type e i size ht hi v n xs hown c, by simpa using hown, ⟨rfl, rfl, rfl, Nat.le_refl _, fun _ _ _ => rfl⟩⟩
  obtain ⟨v', w', hr, h2, h3⟩ := key
  obtain ⟨ao', cap', hv, _⟩ := own_form h2
  rw [hv] at h2 hr
  have hK := h ao' cap' w' h2 h3
  unfold Oper.wp execOp
  simp only [ho, resolve, invoke, builtin, Sem.run_bind, Sem.run_pure, Result.andThen_ok, List.map_toArray, List.map_cons, List.map_nil, hs, hx, hr]
  exact hK

theorem own_blk0 {W : World} {base nb : Nat} (h : Blk W nb 38 #[]) (hb : base ≤ nb) : W.ownsRow base 38 1 (.slice (some ⟨nb, 0, none⟩) 0 0) 0 [] := ⟨rfl, .inr ⟨nb, 0, #[], rfl, hb, h, Nat.le_refl _, Nat.zero_le _, rfl, rfl⟩⟩
theorem RdU.newsW {w W : World} {B : Nat} {ao : Option Addr} {C : List Nat} (h : RdU w B ao C) (hb : Below B w W) : ∀ j u, (uvl C)[j]? = some u → ∃ ad, ao = some ad ∧ W.cell? (ad.add j) = some u := fun j u hj => by
  have hj' : j < C.length := by
    have := (List.getElem?_eq_some_iff.1 hj).1
    rwa [uvl_len] at this
  obtain ⟨b, off, e, hB, hc, _⟩ := h j hj'
  refine ⟨_, e, ?_⟩
  rw [Addr.add_lit, (hb.cell (p := ⟨b, _, none⟩) hB).trans hc, ← hj]
  simp [uvl, List.getD, hj']
theorem chg_grown1 {w w' : World} {g n c : Nat} (h : w.grownBy w' (Value.ownBlock (.slice (some ⟨g, 0, none⟩) n c))) : Chg [g] w w' :=
  Chg.of_grown h fun q hq => .inl (by simp [Value.ownBlock] at hq; simp [hq])

structure RefF (w wr : World) : Prop where
  below : Below w.heap.size w wr
  size : w.heap.size + 1 ≤ wr.heap.size
  res : Blk wr w.heap.size 34 #[.slice none 0 0, .slice none 0 0, .slice none 0 0, .int .i64 0]
theorem RefF.chg {w w1 w2 : World} {l : List Nat} (h : RefF w w1) (hc : Chg l w1 w2) (hl : ∀ k ∈ l, w.heap.size + 1 ≤ k) : RefF w w2 :=
  ⟨below_chg h.below hc (by have := h.size; omega) (fun k hk => by have := hl k hk; omega), by have := h.size; have := hc.size; omega, h.res.chg hc (fun hm => by have := hl _ hm; omega)⟩
theorem RefF.alloc {w w1 : World} (h : RefF w w1) (o : Obj) : RefF w (w1.alloc o) := h.chg ((Chg.refl [] w1).alloc o) (by simp)
theorem RefF.bel {w w1 w2 : World} (h : RefF w w1) (hb : Below (w.heap.size + 1) w1 w2) : RefF w w2 := ⟨h.below.trans (hb.mono (by omega)), by have := h.size; have := hb.size; omega, h.res.below hb (by omega)⟩
theorem refF_start {w w2 : World} (h : Below (w.alloc (.cells #[.slice none 0 0, .slice none 0 0, .slice none 0 0, .int .i64 0] 34)).heap.size (w.alloc (.cells #[.slice none 0 0, .slice none 0 0, .slice none 0 0, .int .i64 0] 34)) w2) : RefF w w2 := by
  have hs : (w.alloc (.cells #[.slice none 0 0, .slice none 0 0, .slice none 0 0, .int .i64 0] 34)).heap.size = w.heap.size + 1 := by simp
  rw [hs] at h
  refine ⟨((Below.refl _ w).alloc (Nat.le_refl _) _).trans (h.mono (by omega)), by have := h.size; omega, ?_⟩
  exact Blk.below (Blk.new w _ _) h (by omega)

theorem rdU_lt {w : World} {B : Nat} {ao : Option Addr} {C : List Nat} (h : RdU w B ao C) : ∀ k, C.getD k 0 < 18446744073709551616 := fun k => by
  by_cases hk : k < C.length
  · obtain ⟨_, _, _, _, _, l⟩ := h k hk; exact l
  · simp only [List.getD, List.getElem?_eq_none (Nat.le_of_not_lt hk)]; decide
theorem made8 (n : Nat) : madeCells #[.int .u64 0, .int .u64 0, .int .u64 0, .int .u64 0, .int .u64 0, .int .u64 0, .int .u64 0, .int .u64 0] (n * 8) = (regC (List.replicate n (List.replicate 8 0))).toArray := by
  have h1 : regC (List.replicate n (List.replicate 8 0)) = List.replicate (n * 8) (Value.int .u64 0) := by
    induction n with
    | zero => rfl
    | succ n ih =>
      have e : regC (List.replicate (n + 1) (List.replicate 8 0)) = uvl (List.replicate 8 0) ++ regC (List.replicate n (List.replicate 8 0)) := rfl
      have e2 : uvl (List.replicate 8 0) = List.replicate 8 (Value.int .u64 0) := rfl
      rw [e, ih, e2, List.replicate_append_replicate]
      congr 1
      omega
  rw [h1]
  apply Array.ext
  · simp [madeCells]
  · intro i h1 h2
    have hm : i % 8 = 0 ∨ i % 8 = 1 ∨ i % 8 = 2 ∨ i % 8 = 3 ∨ i % 8 = 4 ∨ i % 8 = 5 ∨ i % 8 = 6 ∨ i % 8 = 7 := by omega
    simp only [madeCells, Array.getElem_map, Array.getElem_range, List.getElem_toArray, List.getElem_replicate]
    show (#[Value.int .u64 0, .int .u64 0, .int .u64 0, .int .u64 0, .int .u64 0, .int .u64 0, .int .u64 0, .int .u64 0] : Array Value)[i % 8]! = _
    rcases hm with h | h | h | h | h | h | h | h <;> rw [h] <;> rfl
theorem rows8_0 (n : Nat) : Rows8 (List.replicate n (List.replicate 8 0)) := fun l hl => by
  rw [List.eq_of_mem_replicate hl]
  refine ⟨rfl, fun k => ?_⟩
  by_cases h : k < 8
  · have hk : k = 0 ∨ k = 1 ∨ k = 2 ∨ k = 3 ∨ k = 4 ∨ k = 5 ∨ k = 6 ∨ k = 7 := by omega
    rcases hk with rfl | rfl | rfl | rfl | rfl | rfl | rfl | rfl <;> decide
  · have : (List.replicate 8 0).getD k 0 = 0 := by rw [List.getD, List.getElem?_eq_none (by simpa using h)]; rfl
    rw [this]; decide
/-- The machine as it is made. -/
theorem mAt0 {B mb pb rb db tn tc : Nat} {ta : Option Addr} {cv : Value} {X : World} {T : List (List Ins)} {C : List Nat} (hT : T.length = tn) (hC : ∀ k, C.getD k 0 < 18446744073709551616)
    (hm : Blk X mb 61 #[.slice ta tn tc, .slice (some ⟨pb, 0, none⟩) tn tn, cv, .slice (some ⟨rb, 0, none⟩) tn tn, .slice (some ⟨db, 0, none⟩) tn tn, .int .i64 0])
    (hp : Blk X pb 3 (madeCells #[.int .i64 0] tn)) (hr : Blk X rb 47 (madeCells #[.int .u64 0, .int .u64 0, .int .u64 0, .int .u64 0, .int .u64 0, .int .u64 0, .int .u64 0, .int .u64 0] (tn * 8))) (hd : Blk X db 4 (madeCells #[.bool false] tn))
    (ho : X.ownsRow B 38 1 cv C.length (uvl C)) (h1 : B ≤ mb) (h2 : B ≤ pb) (h3 : B ≤ rb) (h4 : B ≤ db) : MAt B mb pb rb db ta tn tc cv X (rs0 T C) := by
  subst hT
  refine ⟨hm, hp.conv ?_, hr.conv (made8 _), hd.conv ?_, ⟨ho, hC⟩, by simp [rs0], by simp [rs0], by simp [rs0], rows8_0 _, h1, h2, h3, h4⟩
  · exact (madeCells_one (.int .i64 0) rfl T.length).trans (by simp [rs0])
  · exact (madeCells_one (.bool false) rfl T.length).trans (by simp [rs0])

theorem doR_len (T : List (List Ins)) (s : RS) (t : Nat) : (doR T s t).1.C.length = s.C.length ∧ (doR T s t).1.steps = s.steps := by
  unfold doR
  dsimp only
  split
  · exact ⟨rfl, rfl⟩
  split
  · exact ⟨rfl, rfl⟩
  split
  · exact ⟨rfl, rfl⟩
  split
  · exact ⟨rfl, rfl⟩
  split
  · exact ⟨by simp, rfl⟩
  split
  · split
    · exact ⟨by simp, rfl⟩
    · exact ⟨rfl, rfl⟩
  split
  · exact ⟨rfl, rfl⟩
  · exact ⟨rfl, rfl⟩
/-- What is left of a pick behind an access, or not. -/
def tgtR (T : List (List Ins)) (q : Nat) (acc : Bool) (s : RS) (n : Nat) : RS := match acc with
  | true => s
  | false => stepR T n s q
theorem stepR_stop {T : List (List Ins)} {f : Nat} {s : RS} {t : Nat} (h : stopR T s t = true) : stepR T f s t = s := by
  cases f with
  | zero => rfl
  | succ f => show (if stopR T s t then s else _) = s; rw [if_pos h]
theorem stepR_acc {T : List (List Ins)} {f : Nat} {s s' : RS} {t : Nat} (h : stopR T s t = false) (hd : doR T s t = (s', true)) : stepR T (f + 1) s t = s' := by
  show (if stopR T s t then s else match doR T s t with | (s', true) => s' | (s', false) => stepR T f s' t) = s'
  rw [if_neg (by simp [h]), hd]
theorem stepR_go {T : List (List Ins)} {f : Nat} {s s' : RS} {t : Nat} (h : stopR T s t = false) (hd : doR T s t = (s', false)) : stepR T (f + 1) s t = stepR T f s' t := by
  show (if stopR T s t then s else match doR T s t with | (s', true) => s' | (s', false) => stepR T f s' t) = _
  rw [if_neg (by simp [h]), hd]
theorem pickR_stop {T : List (List Ins)} {s : RS} {q : Nat} (h : stopR T s q = true) : pickR T s (q : Int) = s := by
  unfold pickR
  rw [Int.toNat_natCast, h]
theorem pickR_go {T : List (List Ins)} {s : RS} {q : Nat} (h : stopR T s q = false) : pickR T s (q : Int) = stepR T 64 ⟨s.places, s.regs, s.done, s.C, s.steps + 1⟩ q := by
  unfold pickR
  rw [Int.toNat_natCast, h]
theorem drop_consI {P : List Int} {k : Nat} (h : k < P.length) : P.drop k = P.getD k 0 :: P.drop (k + 1) := by rw [List.drop_eq_getElem_cons h]; simp [List.getD, h]
/-- The next instruction of a task that has not stopped may be. -/
theorem stop_lt {T : List (List Ins)} {s : RS} {t : Nat} (h : stopR T s t = false) : s.pl t < (T.getD t []).length := by
  unfold stopR at h
  have := of_decide_eq_false (Bool.or_eq_false_iff.1 h).2
  omega
theorem insR_mem {T : List (List Ins)} {s : RS} {t : Nat} (h : s.pl t < (T.getD t []).length) : insR T s t ∈ T.getD t [] := by
  unfold insR
  generalize T.getD t [] = l at h ⊢
  have e : l.getD (s.pl t) ins0 = l[s.pl t] := by simp [List.getD, h]
  rw [e]
  exact List.getElem_mem h
/-- The machine with the first t words of done told anew. -/
def doneUp (T : List (List Ins)) (s : RS) (t : Nat) : RS := ⟨s.places, s.regs, (List.range t).map (stopR T s) ++ s.done.drop t, s.C, s.steps⟩
theorem doneUp_zero (T : List (List Ins)) (s : RS) : doneUp T s 0 = s := by simp [doneUp]
theorem doneUp_stop {T : List (List Ins)} {s : RS} {t : Nat} (ht : t < s.done.length) : stopR T (doneUp T s t) t = stopR T s t := by
  unfold stopR
  have e : (doneUp T s t).dn t = s.dn t := by
    unfold RS.dn doneUp
    simp [List.getD, List.getElem?_append_right, ht]
  rw [e]
  rfl
theorem doneUp_succ {T : List (List Ins)} {s : RS} {t : Nat} (ht : t < s.done.length) : (⟨(doneUp T s t).places, (doneUp T s t).regs, (doneUp T s t).done.set t (stopR T s t), (doneUp T s t).C, (doneUp T s t).steps⟩ : RS) = doneUp T s (t + 1) := by
  unfold doneUp
  congr 1
  have e : (s.done.drop t).set 0 (stopR T s t) = stopR T s t :: s.done.drop (t + 1) := by rw [List.drop_eq_getElem_cons ht]; rfl
  rw [List.set_append, if_neg (by simp)]
  simp [List.range_succ, e]
theorem doneUp_all {T : List (List Ins)} {s : RS} (h : s.done.length = T.length) : (doneUp T s T.length).done = (repR T s).done := by
  unfold doneUp repR
  simp [h]

theorem own_full {B B' : Nat} {w : World} {g e size n : Nat} {xs : List Value} (hb : Blk w g e xs.toArray) (hB : B ≤ g) (hl : xs.length = n * size) (hn : n ≤ maxLen) (_h : B' = B) : w.ownsRow B' e size (.slice (some ⟨g, 0, none⟩) n n) n xs := by
  subst _h
  exact ⟨hl, .inr ⟨g, n, _, rfl, hB, hb, Nat.le_refl _, hn, by simpa using hl, by rw [← hl]; simp⟩⟩
theorem OwnU.lower {B B' : Nat} {w : World} {v : Value} {C : List Nat} (h : OwnU B w v C) (hb : B' ≤ B) : OwnU B' w v C := by
  refine ⟨⟨h.1.1, ?_⟩, h.2⟩
  rcases h.1.2 with h0 | ⟨g, cap, cur, e, hB, r⟩
  · exact .inl h0
  · exact .inr ⟨g, cap, cur, e, by omega, r⟩
/-- The report of the document's machine, as it is told. -/
theorem MAt.rep_at {w wr : World} {mb pb rb db tn tc : Nat} {ta : Option Addr} {cv : Value} {T : List (List Ins)} {s : RS} (h : MAt (w.heap.size + 1) mb pb rb db ta tn tc cv wr (doneUp T s tn)) (hT : T.length = tn) (htn : tn ≤ 4096) (hd : s.done.length = tn) (hs : s.steps ≤ 1048576) {X : Array Value} :
    RepAt w.heap.size (wr.setRow w.heap.size X) cv (.slice (some ⟨rb, 0, none⟩) tn tn) (.slice (some ⟨db, 0, none⟩) tn tn) (repR T s) := by
  subst hT
  have hr := h.hr
  have hdb := h.hd
  have hc : Chg [w.heap.size] wr (wr.setRow w.heap.size X) := (Chg.refl _ _).setRow (.inl (by simp)) _
  have hrb : Blk (wr.setRow w.heap.size X) rb 47 (regC s.regs).toArray := h.r.chg hc (fun hm => by have := List.mem_singleton.1 hm; omega)
  have hdb2 : Blk (wr.setRow w.heap.size X) db 4 _ := h.d.chg hc (fun hm => by have := List.mem_singleton.1 hm; omega)
  have hrl : s.regs.length = T.length := h.rl
  have hdd := doneUp_all hd
  refine ⟨(h.own.chg hc (fun b hb hm => ?_)).lower (by omega), ?_, h.rows, ?_, hs⟩
  · have := h.own.1.lt b hb
    have := List.mem_singleton.1 hm
    omega
  · show World.ownsRow _ _ 47 8 _ s.regs.length (regC s.regs)
    rw [hrl]
    refine own_full hrb (B := w.heap.size) (by omega) ?_ (by unfold maxLen; omega) rfl
    have h8 : Rows8 s.regs := h.rows
    rw [regC_len h8, hrl]
  · show World.ownsRow _ _ 4 1 _ (repR T s).done.length ((repR T s).done.map .bool)
    have hl : (repR T s).done.length = T.length := by simp [repR]
    rw [hl, ← hdd]
    refine own_full hdb2 (B := w.heap.size) (by omega) ?_ (by unfold maxLen; omega) rfl
    rw [List.length_map, hdd, hl, Nat.mul_one]
theorem MAt.part {B mb pb rb db tn tc : Nat} {ta : Option Addr} {cv : Value} {w : World} {s : RS} (h : MAt B mb pb rb db ta tn tc cv w s) : w.rangeAt mb 2 [cv, .slice (some ⟨rb, 0, none⟩) tn tn, .slice (some ⟨db, 0, none⟩) tn tn, .int .i64 s.steps] := fun j v hj => by
  match j, hj with
  | 0, hj => simp at hj; subst hj; exact h.m.at 2 rfl
  | 1, hj => simp at hj; subst hj; exact h.m.at 3 rfl
  | 2, hj => simp at hj; subst hj; exact h.m.at 4 rfl
  | 3, hj => simp at hj; subst hj; exact h.m.at 5 rfl
  | j + 4, hj => simp at hj

end Go.Proofs.Ytlcgighhiacnpaa
