/- Run by its contract, its report laid open; conditions: as what came in reads. -/
import Derived.Test.YtlcgighhiacnpaaWdAppend
import Derived.Test.YtlcgighhiacnpaaWdLaws
namespace Go.Proofs.Ytlcgighhiacnpaa
open Go.RowKit

theorem own_rd {w : World} {B : Nat} {e : TypeId} {z n : Nat} {ao : Option Addr} {k : Nat} {xs : List Value} (h : w.ownsRow B e z (.slice ao n k) n xs) : ∀ j u, xs[j]? = some u → ∃ b, ao = some ⟨b, 0, none⟩ ∧ B ≤ b ∧ b < w.heap.size ∧ w.cell? ⟨b, j, none⟩ = some u := by
  intro j u hu
  rcases h.2 with ⟨_, h0⟩ | ⟨g, cap, cur, e1, hB, hg, h3, h4, h5, h6⟩
  · have := h.1
    rw [h0, Nat.zero_mul] at this
    have := List.eq_nil_of_length_eq_zero this
    subst this
    simp at hu
  · injection e1 with e1 _ _
    have hg' : Blk w g e cur := hg
    refine ⟨g, e1, hB, hg'.lt, hg'.at j ?_⟩
    rw [← h6, List.getElem?_take] at hu
    split at hu
    · simpa using hu
    · cases hu
theorem OwnU.rd {w : World} {B : Nat} {ao : Option Addr} {n k : Nat} {C : List Nat} (h : OwnU B w (.slice ao n k) C) : RdU w w.heap.size ao C := fun j hj => by
  have hn : n = C.length := by
    obtain ⟨_, _, e, _⟩ := own_form h.1
    injection e
  subst hn
  obtain ⟨b, e, _, hb, hc⟩ := own_rd h.1 j (.int .u64 (C.getD j 0 : Nat)) (by simp [uvl, List.getD, hj])
  exact ⟨b, 0, e, hb, by rw [Nat.zero_add]; exact hc, h.2 j⟩
theorem RdU.mono {w : World} {B B' : Nat} {ao : Option Addr} {C : List Nat} (h : RdU w B ao C) (hb : B ≤ B') : RdU w B' ao C := fun k hk => by
  obtain ⟨b, off, e, hB, c⟩ := h k hk
  exact ⟨b, off, e, by omega, c⟩
theorem RdN.mono {w : World} {B B' : Nat} {ao : Option Addr} {C : List Int} (h : RdN w B ao C) (hb : B ≤ B') : RdN w B' ao C := fun k hk => by
  obtain ⟨b, off, e, hB, c⟩ := h k hk
  exact ⟨b, off, e, by omega, c⟩
theorem OwnN.rd' {w : World} {B : Nat} {ao : Option Addr} {n k : Nat} {P : List Int} (h : w.ownsRow B 3 1 (.slice ao n k) n (P.map (.int .i64))) : RdN w w.heap.size ao P := fun j hj => by
  obtain ⟨b, e, _, hb, hc⟩ := own_rd h j (.int .i64 (P.getD j 0)) (by simp [List.getD, hj])
  exact ⟨b, 0, e, hb, by rw [Nat.zero_add]; exact hc⟩

theorem own_max {w : World} {B : Nat} {e : TypeId} {z n : Nat} {v : Value} {xs : List Value} (h : w.ownsRow B e z v n xs) : n ≤ 9223372036854775807 := by
  rcases h.2 with ⟨_, rfl⟩ | ⟨g, cap, cur, _, _, _, h3, h4, _, _⟩
  · omega
  · unfold maxLen at h4; omega
/-- A report in the order of its parts. -/
def RunOpen (w : World) (R : Rep) (c : Int) (e : Ending) (w' : World) : Prop :=
  ∃ (ac : Option Addr) (kc : Nat) (ar : Option Addr) (kr : Nat) (ad : Option Addr) (kd : Nat), e = .returned (.tuple #[.agg #[.slice ac R.cells.length kc, .slice ar R.regs.length kr, .slice ad R.done.length kd, .int .i64 R.steps], .int .i64 c]) ∧
    RepAt w.heap.size w' (.slice ac R.cells.length kc) (.slice ar R.regs.length kr) (.slice ad R.done.length kd) R ∧ Below w.heap.size w w'
theorem runOpen_of {w : World} {R : Rep} {c : Int} {e : Ending} {w' : World} (h : RunPost w (R, c) e w') : RunOpen w R c e w' := by
  obtain ⟨cv, rv, dv, h1, h2, h3⟩ := h
  obtain ⟨ac, kc, e1, _⟩ := own_form h2.cells.1
  obtain ⟨ar, kr, e2, _⟩ := own_form h2.regs
  obtain ⟨ad, kd, e3, _⟩ := own_form h2.done
  subst e1 e2 e3
  exact ⟨ac, kc, ar, kr, ad, kd, h1, h2, h3⟩
theorem run_open (w : World) (ta ca pa : Option Addr) (tn tc cn cc pn pc : Nat) (T : List (List Ins)) (C : List Nat) (P : List Int) (hT : T.length = tn) (hC : C.length = cn) (hP : P.length = pn) (hln : tn ≤ 9223372036854775807 ∧ cn ≤ 9223372036854775807 ∧ pn ≤ 9223372036854775807)
    (hrt : RdT w w.heap.size ta T) (hrc : RdU w w.heap.size ca C) (hrp : RdN w w.heap.size pa P) {R : Rep} {c : Int} (hx : runM T C P = (R, c)) :
    Calls Try.prog 13 #[.slice ta tn tc, .slice ca cn cc, .slice pa pn pc] w (RunOpen w R c) :=
  (run_any w ta ca pa tn tc cn cc pn pc T C P hT hC hP hln hrt hrc hrp).mono fun _ _ h => runOpen_of (by rw [hx] at h; exact h)

theorem RepAt.chg {B : Nat} {w w' : World} {cv rv dv : Value} {R : Rep} (h : RepAt B w cv rv dv R) (hc : Below w.heap.size w w') : RepAt B w' cv rv dv R :=
  ⟨h.cells.chg (Chg.of_below hc []) (by simp), own_chg h.regs (Chg.of_below hc []) (by simp), h.rlen, own_chg h.done (Chg.of_below hc []) (by simp), h.steps⟩

theorem wpList_append_to {P : Program} {ops : Array Oper} {rest : List Oper} {o : Oper} {a : Act} {w : World} {Q : Exit → Act → World → Prop} (hgd : o.guard = none) (s x : Operand) (t : TypeId)
    (ho : o.op = .call { callee := .builtin .append, args := #[s, x], argTypes := #[t, t] })
    (base : Nat) (e : TypeId) (i : TypeInfo) (z : Value) (size bytes : Nat) (ht : P.underlying t = some (.slice e)) (hi : P.info? e = some i) (hz : i.zero = some z)
    (hsize : i.size = size) (hby : i.bytes = bytes) (hzs : z.cells.size = size) (hsz : 0 < size)
    (v : Value) (n : Nat) (xs : List Value) (hs : a.eval s = v) (hown : w.ownsRow base e size v n xs)
    (ao : Option Addr) (m c : Nat) (news : List Value) (hx : a.eval x = .slice ao m c) (hl : news.length = m * size) (hnews : ∀ j u, news[j]? = some u → ∃ ad, ao = some ad ∧ w.cell? (ad.add j) = some u) (h1 : ∀ u ∈ news, u.oneCell' = true)
    (N : Nat) (hN : n + m = N) (ys : List Value) (hys : xs ++ news = ys)
    (h63 : N ≤ maxLen) (hbytes : N * bytes ≤ 140737488355328) (hbase : base ≤ w.heap.size)
    (h : ∀ (ao' : Option Addr) (cap' : Nat) w', w'.ownsRow base e size (.slice ao' N cap') N ys → w.grownBy w' v.ownBlock → wpList P ops Q rest (a.put o.dst (.slice ao' N cap')) w') :
    wpList P ops Q (o :: rest) a w := by
  subst hN hys
  exact wpList_append_opt hgd s x t ho base e i z size bytes ht hi hz hsize hby hzs hsz v n xs hs hown ao m c news hx hl hnews h1 h63 hbytes hbase fun a k w h1 h2 _ => h a k w h1 h2
theorem wpList_append_ap {P : Program} {ops : Array Oper} {rest : List Oper} {o : Oper} {a : Act} {w : World} {Q : Exit → Act → World → Prop} (hgd : o.guard = none) (s x : Operand) (t : TypeId)
    (ho : o.op = .call { callee := .builtin .append, args := #[s, x], argTypes := #[t, t] })
    (base : Nat) (e : TypeId) (i : TypeInfo) (z : Value) (size bytes : Nat) (ht : P.underlying t = some (.slice e)) (hi : P.info? e = some i) (hz : i.zero = some z)
    (hsize : i.size = size) (hby : i.bytes = bytes) (hzs : z.cells.size = size) (hsz : 0 < size)
    (v : Value) (n : Nat) (xs : List Value) (hs : a.eval s = v) (hown : w.ownsRow base e size v n xs)
    (ao : Option Addr) (m c : Nat) (news : List Value) (hx : a.eval x = .slice ao m c) (hl : news.length = m * size) (hnews : ∀ j u, news[j]? = some u → ∃ ad, ao = some ad ∧ w.cell? (ad.add j) = some u) (h1 : ∀ u ∈ news, u.oneCell' = true)
    (N : Nat) (hN : n + m = N) (ys : List Value) (hys : xs ++ news = ys)
    (h63 : N ≤ maxLen) (hbytes : N * bytes ≤ 140737488355328) (hbase : base ≤ w.heap.size)
    (h : ∀ (ao' : Option Addr) (cap' : Nat) w', w'.ownsRow base e size (.slice ao' N cap') N ys → w.grownBy w' v.ownBlock → ((Value.slice ao' N cap').ownBlock = v.ownBlock ∨ (Value.slice ao' N cap').ownBlock = some w.heap.size) → wpList P ops Q rest (a.put o.dst (.slice ao' N cap')) w') :
    wpList P ops Q (o :: rest) a w := by
  subst hN hys
  exact wpList_append_opt hgd s x t ho base e i z size bytes ht hi hz hsize hby hzs hsz v n xs hs hown ao m c news hx hl hnews h1 h63 hbytes hbase h
theorem ints_one (P : List Int) : ∀ u ∈ P.map (Value.int .i64), u.oneCell' = true := by
  intro u hu
  obtain ⟨x, _, rfl⟩ := List.mem_map.1 hu
  rfl
theorem uvl_one (C : List Nat) : ∀ u ∈ uvl C, u.oneCell' = true := by
  intro u hu
  obtain ⟨x, _, rfl⟩ := List.mem_map.1 hu
  rfl
theorem news_blk {w : World} {g : Nat} {t : TypeId} {cs : Array Value} (h : Blk w g t cs) : ∀ j u, cs.toList[j]? = some u → ∃ ad, some (⟨g, 0, none⟩ : Addr) = some ad ∧ w.cell? (ad.add j) = some u := fun j u hu => ⟨_, rfl, by
  rw [Addr.add_lit, Nat.zero_add]
  exact h.at j (by simpa using hu)⟩
theorem RepAt.mono {B B' : Nat} {w : World} {cv rv dv : Value} {R : Rep} (h : RepAt B w cv rv dv R) (hb : B' ≤ B) : RepAt B' w cv rv dv R :=
  ⟨h.cells.mono hb, own_mono h.regs hb, h.rlen, own_mono h.done hb, h.steps⟩

/-- A report in a variable of its own. -/
structure IdleF (w : World) (g : Nat) (cv rv dv : Value) (R : Rep) (wr : World) : Prop where
  below : Below w.heap.size w wr
  hg : w.heap.size ≤ g
  box : Blk wr g 34 #[cv, rv, dv, .int .i64 R.steps]
  rep : RepAt w.heap.size wr cv rv dv R
theorem below_grown {B : Nat} {w w' w'' : World} {row : Option Nat} (h : Below B w w') (hg : w'.grownBy w'' row) (hB : B ≤ w'.heap.size) (hr : ∀ g, row = some g → B ≤ g) : Below B w w'' :=
  below_chg h (Chg.of_grown (row := row) (l := row.toList) hg (fun g e => .inl (by simp [e]))) hB (fun k hk => hr k (by simpa using hk))
theorem IdleF.chg {w : World} {g : Nat} {cv rv dv : Value} {R : Rep} {wr w' : World} {l : List Nat} (h : IdleF w g cv rv dv R wr) (hc : Chg l wr w') (hr : ∀ q ∈ l, w.heap.size ≤ q ∧ q ≠ g ∧ cv.ownBlock ≠ some q ∧ rv.ownBlock ≠ some q ∧ dv.ownBlock ≠ some q) : IdleF w g cv rv dv R w' := by
  refine ⟨below_chg h.below hc h.below.size (fun k hk => (hr k hk).1), h.hg, h.box.chg hc (fun hm => (hr g hm).2.1 rfl), ⟨h.rep.cells.chg hc ?_, own_chg h.rep.regs hc ?_, h.rep.rlen, own_chg h.rep.done hc ?_, h.rep.steps⟩⟩
  · intro q hq hm; exact (hr q hm).2.2.1 hq
  · intro q hq hm; exact (hr q hm).2.2.2.1 hq
  · intro q hq hm; exact (hr q hm).2.2.2.2 hq
theorem IdleF.alloc {w : World} {g : Nat} {cv rv dv : Value} {R : Rep} {wr : World} (h : IdleF w g cv rv dv R wr) (o : Obj) : IdleF w g cv rv dv R (wr.alloc o) := h.chg (l := []) ((Chg.refl [] wr).alloc o) (by simp)
theorem IdleF.below' {w : World} {g : Nat} {cv rv dv : Value} {R : Rep} {wr w' : World} (h : IdleF w g cv rv dv R wr) (hb : Below wr.heap.size wr w') : IdleF w g cv rv dv R w' := h.chg (l := []) (Chg.of_below hb []) (by simp)
/-- A row of numbers or of tasks is appended to: the report stays. -/
theorem IdleF.grown {w : World} {g : Nat} {cv rv dv : Value} {R : Rep} {wr w' : World} {B : Nat} {e : TypeId} {z n : Nat} {v : Value} {xs : List Value} (h : IdleF w g cv rv dv R wr) (ho : wr.ownsRow B e z v n xs) (hB : w.heap.size ≤ B) (he : e ≠ 34 ∧ e ≠ 38 ∧ e ≠ 47 ∧ e ≠ 4) (hg : wr.grownBy w' v.ownBlock) : IdleF w g cv rv dv R w' := by
  refine h.chg (l := v.ownBlock.toList) (Chg.of_grown hg (fun g e => .inl (by simp [e]))) fun q hq => ?_
  have hq : v.ownBlock = some q := by simpa using hq
  refine ⟨Nat.le_trans hB (below_own ho q hq), fun e => ?_, own_own ho h.rep.cells.1 he.2.1 q hq, own_own ho h.rep.regs he.2.2.1 q hq, own_own ho h.rep.done he.2.2.2 q hq⟩
  exact own_ne ho h.box he.1 (by rw [hq, e])
theorem idleF_new {w w2 w3 : World} {ac ar ad : Option Addr} {kc kr kd : Nat} {R : Rep} (h2 : Below w.heap.size w w2) (h3 : Below w2.heap.size w2 w3) (hR : RepAt w2.heap.size w3 (.slice ac R.cells.length kc) (.slice ar R.regs.length kr) (.slice ad R.done.length kd) R) :
    IdleF w w3.heap.size (.slice ac R.cells.length kc) (.slice ar R.regs.length kr) (.slice ad R.done.length kd) R (w3.alloc (.cells #[.slice ac R.cells.length kc, .slice ar R.regs.length kr, .slice ad R.done.length kd, .int .i64 R.steps] 34)) :=
  ⟨(h2.trans (h3.mono h2.size)).alloc (Nat.le_trans h2.size h3.size) _, Nat.le_trans h2.size h3.size, Blk.new _ _ _, (hR.mono h2.size).chg ((Below.refl _ w3).alloc (Nat.le_refl _) _)⟩

end Go.Proofs.Ytlcgighhiacnpaa
