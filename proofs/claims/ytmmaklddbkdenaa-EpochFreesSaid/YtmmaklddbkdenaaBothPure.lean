/- The clock and the document's clock side by side: what a change of one leaves of the other; conditions: none. -/
import Derived.Test.YtmmaklddbkdenaaSameSpoil
import Derived.Test.YtmmaklddbkdenaaEpochFull
import Derived.Test.YtmmaklddbkdenaaAtPure
namespace Go.Proofs.Ytmmaklddbkdenaa
open Go.RowKit

theorem Pos.turn {k : Ck} (h : Pos k) (i ep : Int) (he : 0 ≤ ep) : Pos (turnK k i ep) := by
  cases hb : turnBad k.ws i ep with
  | true => rw [(turn_bad hb).2]; exact h
  | false =>
    rw [(turn_good hb).2]
    obtain ⟨m, rfl, hm⟩ := turnBad_false hb
    intro j
    show 0 ≤ (k.ws.set (m : Int).toNat ep).getD j 0
    rw [Int.toNat_natCast, getD_set hm]
    split
    · exact he
    · exact h j
theorem Pos.adv {k : Ck} (h : Pos k) : Pos (adv k) := by unfold Pos; rw [adv_ws]; exact h
theorem newK_pos (n e g : Int) : Pos (newK n e g) := by
  intro i
  show 0 ≤ (List.replicate n.toNat (0 : Int)).getD i 0
  simp only [List.getD, List.getElem?_replicate]
  split <;> simp
theorem keepT_le (k : Ck) (ts : List (Int × Int)) : (keepT k ts).length ≤ ts.length := List.length_filter_le _ _
theorem toldT_le (k : Ck) (ts : List (Int × Int)) : (toldT k ts).length ≤ ts.length := by
  unfold toldT; rw [List.length_map]; exact List.length_filter_le _ _

/-- The row lies where the elder one lay, or in a new place. -/
def Mov (w : World) (v v' : Value) : Prop := ∀ g, v'.ownBlock = some g → v.ownBlock = some g ∨ w.heap.size ≤ g
theorem Mov.refl (w : World) (v : Value) : Mov w v v := fun _ hg => .inl hg
theorem Moved.mov {w : World} {v v' : Value} (h : Moved w v v') : Mov w v v' := by
  intro g hg
  rcases h with e | ⟨g', e, h2⟩
  · exact .inl (e ▸ hg)
  · rw [e] at hg; injection hg with hg; exact .inr (by omega)
theorem mem_ct {c bw : Nat} {tv : Value} : ∀ q ∈ c :: tv.ownBlock.toList, q = c ∨ q = bw ∨ tv.ownBlock = some q := by
  intro q hq
  simp only [List.mem_cons, Option.mem_toList] at hq
  rcases hq with rfl | hq
  · exact .inl rfl
  · exact .inr (.inr hq)
theorem mem_rt {r rw : Nat} {rt rv : Value} : ∀ q ∈ r :: (rt.ownBlock.toList ++ rv.ownBlock.toList), q = r ∨ q = rw ∨ rt.ownBlock = some q ∨ rv.ownBlock = some q := by
  intro q hq
  simp only [List.mem_cons, List.mem_append, Option.mem_toList] at hq
  rcases hq with rfl | hq | hq
  · exact .inl rfl
  · exact .inr (.inr (.inl hq))
  · exact .inr (.inr (.inr hq))

/-- Both clocks, apart; since w0 nothing below B has changed. -/
structure Two (B : Nat) (w0 w : World) (c bw r rw : Nat) (tv rt rv : Value) (k1 : Ck) (t1 : List (Int × Int)) (k2 : Ck) (t2 : List (Int × Int)) : Prop where
  C : IsClock w c bw tv k1
  T : Things w tv t1
  R : IsRef w r rw rt rv k2
  S : RT w rw rt rv t2
  bel : Below B w0 w
  bc : B ≤ c
  bb : B ≤ bw
  br : B ≤ r
  bq : B ≤ rw
  ne : bw ≠ rw
  at_ : Above B tv
  a1 : ∀ g, rt.ownBlock = some g → B ≤ g ∧ g ≠ bw
  a2 : ∀ g, rv.ownBlock = some g → B ≤ g ∧ g ≠ bw

section
variable {B : Nat} {w0 w w' : World} {c bw r rw : Nat} {tv rt rv tv' rt' rv' : Value} {k1 k2 k' : Ck} {t1 t2 t' : List (Int × Int)} {l : List Nat}
theorem Two.size (h : Two B w0 w c bw r rw tv rt rv k1 t1 k2 t2) : B ≤ w.heap.size := by have := h.C.1.lt; have := h.bc; omega
theorem Two.drew (h : Two B w0 w c bw r rw tv rt rv k1 t1 k2 t2) : Two B w0 w.drew c bw r rw tv rt rv k1 t1 k2 t2 := { h with bel := h.bel.drew, S := ⟨h.S.t, h.S.v, h.S.a, h.S.b⟩ }
theorem Two.drewN (h : Two B w0 w c bw r rw tv rt rv k1 t1 k2 t2) (n : Nat) : Two B w0 (w.drewN n) c bw r rw tv rt rv k1 t1 k2 t2 := { h with bel := below_drewN h.bel n, S := ⟨h.S.t, h.S.v, h.S.a, h.S.b⟩ }
theorem Two.ref_out (h : Two B w0 w c bw r rw tv rt rv k1 t1 k2 t2) (hl : ∀ q ∈ l, q = c ∨ q = bw ∨ tv.ownBlock = some q) : r ∉ l ∧ rw ∉ l ∧ (∀ g, rt.ownBlock = some g → g ∉ l) ∧ (∀ g, rv.ownBlock = some g → g ∉ l) ∧ ∀ q ∈ l, B ≤ q := by
  refine ⟨fun hm => ?_, fun hm => ?_, fun g hg hm => ?_, fun g hg hm => ?_, fun q hm => ?_⟩
  · rcases hl _ hm with e | e | e
    · exact h.R.1.ne h.C.1 (by decide) e
    · exact h.R.1.ne h.C.2 (by decide) e
    · exact own_ne h.T h.R.1 (by decide) e.symm
  · rcases hl _ hm with e | e | e
    · exact h.R.2.ne h.C.1 (by decide) e
    · exact h.ne e.symm
    · exact own_ne h.T h.R.2 (by decide) e.symm
  · rcases hl _ hm with e | e | e
    · exact own_ne h.S.t h.C.1 (by decide) (e ▸ hg.symm)
    · exact (h.a1 g hg).2 e
    · rcases h.T.2 with ⟨e1, _⟩ | ⟨g', cap, cur, e1, _, h3, _⟩
      · rw [e1] at e; cases e
      · rw [e1] at e; simp only [Value.ownBlock, Option.some.injEq] at e
        subst e
        exact own_ne h.S.t (t := 58) (cs := cur) h3 (by decide) hg.symm
  · rcases hl _ hm with e | e | e
    · exact own_ne h.S.v h.C.1 (by decide) (e ▸ hg.symm)
    · exact (h.a2 g hg).2 e
    · rcases h.T.2 with ⟨e1, _⟩ | ⟨g', cap, cur, e1, _, h3, _⟩
      · rw [e1] at e; cases e
      · rw [e1] at e; simp only [Value.ownBlock, Option.some.injEq] at e
        subst e
        exact own_ne h.S.v (t := 58) (cs := cur) h3 (by decide) hg.symm
  · rcases hl _ hm with rfl | rfl | e
    · exact h.bc
    · exact h.bb
    · exact h.at_ q e
theorem Two.clk (h : Two B w0 w c bw r rw tv rt rv k1 t1 k2 t2) (hC : IsClock w' c bw tv' k') (hT : Things w' tv' t') (hc : Chg l w w') (hl : ∀ q ∈ l, q = c ∨ q = bw ∨ tv.ownBlock = some q) (hm : Moved w tv tv') :
    Two B w0 w' c bw r rw tv' rt rv k' t' k2 t2 := by
  obtain ⟨n1, n2, n3, n4, n5⟩ := h.ref_out hl
  exact { h with C := hC, T := hT, R := h.R.chg hc n1 n2, S := h.S.chg hc n3 n4, bel := below_chg h.bel hc h.size n5, at_ := h.at_.moved hm h.size }
theorem Two.clk_out (h : Two B w0 w c bw r rw tv rt rv k1 t1 k2 t2) (hl : ∀ q ∈ l, q = r ∨ q = rw ∨ rt.ownBlock = some q ∨ rv.ownBlock = some q) : c ∉ l ∧ bw ∉ l ∧ (∀ g, tv.ownBlock = some g → g ∉ l) ∧ ∀ q ∈ l, B ≤ q := by
  refine ⟨fun hm => ?_, fun hm => ?_, fun g hg hm => ?_, fun q hm => ?_⟩
  · rcases hl _ hm with e | e | e | e
    · exact h.C.1.ne h.R.1 (by decide) e
    · exact h.C.1.ne h.R.2 (by decide) e
    · exact own_ne h.S.t h.C.1 (by decide) e.symm
    · exact own_ne h.S.v h.C.1 (by decide) e.symm
  · rcases hl _ hm with e | e | e | e
    · exact h.C.2.ne h.R.1 (by decide) e
    · exact h.ne e
    · exact (h.a1 _ e).2 rfl
    · exact (h.a2 _ e).2 rfl
  · rcases h.T.2 with ⟨e1, _⟩ | ⟨g', cap, cur, e1, _, h3, _⟩
    · rw [e1] at hg; cases hg
    · rw [e1] at hg; simp only [Value.ownBlock, Option.some.injEq] at hg
      subst hg
      have hb : Blk w g' 58 cur := h3
      rcases hl _ hm with e | e | e | e
      · exact hb.ne h.R.1 (by decide) e
      · exact hb.ne h.R.2 (by decide) e
      · exact own_ne h.S.t hb (by decide) e.symm
      · exact own_ne h.S.v hb (by decide) e.symm
  · rcases hl _ hm with rfl | rfl | e | e
    · exact h.br
    · exact h.bq
    · exact (h.a1 _ e).1
    · exact (h.a2 _ e).1
theorem Two.ref (h : Two B w0 w c bw r rw tv rt rv k1 t1 k2 t2) (hR : IsRef w' r rw rt' rv' k') (hS : RT w' rw rt' rv' t') (hc : Chg l w w') (hl : ∀ q ∈ l, q = r ∨ q = rw ∨ rt.ownBlock = some q ∨ rv.ownBlock = some q) (hm : Mov w rt rt') (hm2 : Mov w rv rv') :
    Two B w0 w' c bw r rw tv rt' rv' k1 t1 k' t' := by
  obtain ⟨n1, n2, n3, n5⟩ := h.clk_out hl
  have hs := h.size
  have hbw := h.C.2.lt
  refine { h with C := h.C.chg hc n1 n2, T := own_chg h.T hc n3, R := hR, S := hS, bel := below_chg h.bel hc h.size n5, a1 := fun g hg => ?_, a2 := fun g hg => ?_ }
  · rcases hm g hg with e | h2
    · exact h.a1 g e
    · exact ⟨by omega, by omega⟩
  · rcases hm2 g hg with e | h2
    · exact h.a2 g e
    · exact ⟨by omega, by omega⟩
theorem Two.clk2 (h : Two B w0 w c bw r rw tv rt rv k1 t1 k2 t2) (hC : IsClock w' c bw tv k') (hc : Chg l w w') (hl : ∀ q ∈ l, q = c ∨ q = bw) : Two B w0 w' c bw r rw tv rt rv k' t1 k2 t2 := by
  refine h.clk hC (own_chg h.T hc fun g hg hm => ?_) hc (fun q hq => (hl q hq).elim .inl (fun e => .inr (.inl e))) (.inl rfl)
  rcases hl _ hm with e | e
  · exact own_ne h.T h.C.1 (by decide) (e ▸ hg.symm)
  · exact own_ne h.T h.C.2 (by decide) (e ▸ hg.symm)
theorem Two.ref2 (h : Two B w0 w c bw r rw tv rt rv k1 t1 k2 t2) (hR : IsRef w' r rw rt rv k') (hc : Chg l w w') (hl : ∀ q ∈ l, q = r ∨ q = rw) : Two B w0 w' c bw r rw tv rt rv k1 t1 k' t2 := by
  refine h.ref hR (h.S.chg hc (fun g hg hm => ?_) (fun g hg hm => ?_)) hc (fun q hq => (hl q hq).elim .inl (fun e => .inr (.inl e))) (Mov.refl _ _) (Mov.refl _ _)
  · rcases hl _ hm with e | e
    · exact own_ne h.S.t h.R.1 (by decide) (e ▸ hg.symm)
    · exact (h.S.a g hg).1 e
  · rcases hl _ hm with e | e
    · exact own_ne h.S.v h.R.1 (by decide) (e ▸ hg.symm)
    · exact h.S.b g hg e
/-- What lies elsewhere stays, of whatever type. -/
theorem Two.blk_clk {g : Nat} {t : TypeId} {cs : Array Value} (h : Two B w0 w c bw r rw tv rt rv k1 t1 k2 t2) (hb : Blk w g t cs) (ht : t = 32) (hc : Chg l w w') (hl : ∀ q ∈ l, q = c ∨ q = bw ∨ tv.ownBlock = some q) : Blk w' g t cs := by
  subst ht
  refine hb.chg hc fun hm => ?_
  rcases hl _ hm with e | e | e
  · exact hb.ne h.C.1 (by decide) e
  · exact hb.ne h.C.2 (by decide) e
  · exact own_ne h.T hb (by decide) e.symm
theorem Two.blk_ref {g : Nat} {t : TypeId} {cs : Array Value} (h : Two B w0 w c bw r rw tv rt rv k1 t1 k2 t2) (hb : Blk w g t cs) (ht : t = 32) (hc : Chg l w w') (hl : ∀ q ∈ l, q = r ∨ q = rw ∨ rt.ownBlock = some q ∨ rv.ownBlock = some q) : Blk w' g t cs := by
  subst ht
  refine hb.chg hc fun hm => ?_
  rcases hl _ hm with e | e | e | e
  · exact hb.ne h.R.1 (by decide) e
  · exact hb.ne h.R.2 (by decide) e
  · exact own_ne h.S.t hb (by decide) e.symm
  · exact own_ne h.S.v hb (by decide) e.symm
theorem Two.far (h : Two B w0 w c bw r rw tv rt rv k1 t1 k2 t2) (hc : Chg l w w') (h1 : c ∉ l) (h2 : bw ∉ l) (h3 : r ∉ l) (h4 : rw ∉ l) (h5 : ∀ g, tv.ownBlock = some g → g ∉ l) (h6 : ∀ g, rt.ownBlock = some g → g ∉ l) (h7 : ∀ g, rv.ownBlock = some g → g ∉ l) (h8 : ∀ q ∈ l, B ≤ q) :
    Two B w0 w' c bw r rw tv rt rv k1 t1 k2 t2 :=
  { h with C := h.C.chg hc h1 h2, T := own_chg h.T hc h5, R := h.R.chg hc h3 h4, S := h.S.chg hc h6 h7, bel := below_chg h.bel hc h.size h8 }
theorem Two.alloc (h : Two B w0 w c bw r rw tv rt rv k1 t1 k2 t2) (o : Obj) : Two B w0 (w.alloc o) c bw r rw tv rt rv k1 t1 k2 t2 := by
  have hc : Chg [] w (w.alloc o) := (Chg.refl _ _).alloc o
  exact { h with C := h.C.chg hc (by simp) (by simp), T := own_chg h.T hc (fun _ _ => by simp), R := h.R.chg hc (by simp) (by simp), S := h.S.chg hc (fun _ _ => by simp) (fun _ _ => by simp), bel := below_chg h.bel hc h.size (by simp) }
end

end Go.Proofs.Ytmmaklddbkdenaa
