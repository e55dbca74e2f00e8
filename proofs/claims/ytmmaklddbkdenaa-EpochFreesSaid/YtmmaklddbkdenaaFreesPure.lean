/- What holds between the rounds of the law EpochFrees: of each worker that works when it entered, of each thing when it was retired; conditions: none. -/
import Derived.Test.YtmmaklddbkdenaaBothPure
import Derived.Maps.OwnSet
namespace Go.Proofs.Ytmmaklddbkdenaa
open Go.RowKit Go.Maps

theorem pairwise_mem {α : Type} {R : α → α → Prop} (hs : ∀ a b, R a b → R b a) : ∀ {l : List α}, l.Pairwise R → ∀ x ∈ l, ∀ y ∈ l, x ≠ y → R x y
  | [], _, x, hx, _, _, _ => by cases hx
  | a :: l, h, x, hx, y, hy, hne => by
    obtain ⟨h1, h2⟩ := List.pairwise_cons.1 h
    rcases List.mem_cons.1 hx with e | hx1
    · rcases List.mem_cons.1 hy with e2 | hy1
      · exact absurd (e.trans e2.symm) hne
      · exact e ▸ h1 y hy1
    · rcases List.mem_cons.1 hy with e2 | hy1
      · exact e2 ▸ hs _ _ (h1 x hx1)
      · exact pairwise_mem hs h2 x hx1 y hy1 hne

/-- Behind j rounds: a worker that works and entered ahead of a thing's retiring works at no later epoch than the thing's; things are unlike. -/
structure FInv (j : Nat) (k : Ck) (ts : List (Int × Int)) (ent : List Int) : Prop where
  good : Good k
  len : ent.length = 16
  ents : ∀ q, ent.getD q 0 ≤ j
  work : ∀ q, 0 < ent.getD q 0 → 0 < k.ws.getD q 0
  old : ∀ x ∈ ts, ∀ q, 0 < ent.getD q 0 → ent.getD q 0 - 1 < x.1 → k.ws.getD q 0 ≤ x.2
  lt : ∀ x ∈ ts, 0 ≤ x.1 ∧ x.1 < j
  nd : ts.Pairwise (fun a b => a.1 ≠ b.1)
  size : ts.length ≤ 4096

section
variable {j : Nat} {k : Ck} {ts : List (Int × Int)} {ent : List Int}
theorem FInv.same (h : FInv j k ts ent) : FInv (j + 1) k ts ent :=
  { h with ents := fun q => by have := h.ents q; omega, lt := fun x hx => by have := h.lt x hx; omega }
theorem FInv.turn_ws (h : FInv j k ts ent) {m : Nat} {ep : Int} (hb : turnBad k.ws m ep = false) : m < k.ws.length ∧ (turnK k m ep).ws = k.ws.set m ep := by
  obtain ⟨m', e, hm⟩ := turnBad_false hb
  have : m' = m := by omega
  subst this
  exact ⟨hm, by rw [(turn_good hb).2]; rfl⟩
theorem FInv.enter (h : FInv j k ts ent) {m : Nat} (hb : turnBad k.ws m k.glob = false) : FInv (j + 1) (turnK k m k.glob) ts (ent.set m ((j : Int) + 1)) := by
  obtain ⟨hm, hws⟩ := h.turn_ws hb
  have hml : m < ent.length := by have := h.len; have := h.good.ok.len; omega
  have hg := h.good.ok.g1
  refine ⟨h.good.turn _ _ (.inr rfl), by simpa using h.len, fun q => ?_, fun q => ?_, fun x hx q => ?_, fun x hx => by have := h.lt x hx; omega, h.nd, h.size⟩
  · rw [getD_set hml]; split
    · omega
    · have := h.ents q; omega
  · rw [hws, getD_set hml, getD_set hm]; split
    · intro _; omega
    · exact h.work q
  · rw [hws, getD_set hml, getD_set hm]; split
    · intro _ h2; have := h.lt x hx; omega
    · exact h.old x hx q
theorem FInv.leave (h : FInv j k ts ent) {m : Nat} (hb : turnBad k.ws m 0 = false) : FInv (j + 1) (turnK k m 0) ts (ent.set m 0) := by
  obtain ⟨hm, hws⟩ := h.turn_ws hb
  have hml : m < ent.length := by have := h.len; have := h.good.ok.len; omega
  refine ⟨h.good.turn _ _ (.inl rfl), by simpa using h.len, fun q => ?_, fun q => ?_, fun x hx q => ?_, fun x hx => by have := h.lt x hx; omega, h.nd, h.size⟩
  · rw [getD_set hml]; split
    · omega
    · have := h.ents q; omega
  · rw [hws, getD_set hml, getD_set hm]; split
    · intro h2; omega
    · exact h.work q
  · rw [hws, getD_set hml, getD_set hm]; split
    · intro h2; omega
    · exact h.old x hx q
theorem FInv.adv (h : FInv j k ts ent) : FInv (j + 1) (adv k) ts ent := by
  have hs := h.same
  exact { hs with good := h.good.rise.1, work := fun q => by rw [adv_ws]; exact h.work q, old := fun x hx q => by rw [adv_ws]; exact h.old x hx q }
theorem FInv.retire (h : FInv j k ts ent) (hl : ts.length < 4096) : FInv (j + 1) k (ts ++ [((j : Int), k.glob)]) ent := by
  have hs := h.same
  refine { hs with old := fun x hx q => ?_, lt := fun x hx => ?_, nd := ?_, size := by simp; omega }
  · simp only [List.mem_append, List.mem_singleton] at hx
    rcases hx with hx | rfl
    · exact h.old x hx q
    · intro h1 _
      exact (h.good.w q (h.work q h1)).2.1
  · simp only [List.mem_append, List.mem_singleton] at hx
    rcases hx with hx | rfl
    · have := h.lt x hx; omega
    · exact ⟨by dsimp only; omega, by dsimp only; omega⟩
  · rw [List.pairwise_append]
    refine ⟨h.nd, List.pairwise_singleton _ _, fun a ha b hb => ?_⟩
    simp only [List.mem_singleton] at hb
    subst hb
    have := h.lt a ha
    dsimp only; omega
theorem FInv.free (h : FInv j k ts ent) : FInv (j + 1) k (keepT k ts) ent := by
  have hs := h.same
  exact { hs with old := fun x hx => h.old x (List.mem_filter.1 hx).1, lt := fun x hx => by have := h.lt x (List.mem_filter.1 hx).1; omega, nd := h.nd.filter _, size := Nat.le_trans (keepT_le k ts) h.size }
theorem FInv.told (h : FInv j k ts ent) {x : Int × Int} (hx : x ∈ ts) (hf : freeP k x.2 = true) (q : Nat) (h1 : 0 < ent.getD q 0) : x.1 ≤ ent.getD q 0 - 1 := by
  have hw := h.work q h1
  unfold freeP at hf
  simp only [Bool.and_eq_true, Bool.not_eq_true'] at hf
  have := mem_worksP hf.2 q hw
  simp only [decide_eq_false_iff_not] at this
  rcases Int.lt_or_le (ent.getD q 0 - 1) x.1 with hlt | hge
  · exact absurd (h.old x hx q h1 hlt) this
  · exact hge

theorem mem_toldT {t : Int} : t ∈ toldT k ts ↔ ∃ x ∈ ts, freeP k x.2 = true ∧ x.1 = t := by
  simp [toldT, List.mem_map, List.mem_filter, and_assoc]
theorem mem_keepT {x : Int × Int} : x ∈ keepT k ts ↔ x ∈ ts ∧ freeP k x.2 = false := by
  simp [keepT, List.mem_filter]
/-- A thing that is told is told once, and is not kept. -/
theorem FInv.told_nd (h : FInv j k ts ent) : (toldT k ts).Nodup := by
  unfold toldT
  rw [List.nodup_iff_pairwise_ne, List.pairwise_map]
  exact h.nd.filter _
theorem FInv.apart (h : FInv j k ts ent) {t : Int} (ht : t ∈ toldT k ts) : ∀ x ∈ keepT k ts, x.1 ≠ t := by
  intro x hx e
  obtain ⟨y, hy, hfy, ey⟩ := mem_toldT.1 ht
  obtain ⟨hx1, hfx⟩ := mem_keepT.1 hx
  by_cases exy : x = y
  · subst exy; rw [hfx] at hfy; cases hfy
  · exact (pairwise_mem (fun a b hab => Ne.symm hab) h.nd x hx1 y hy exy) (e.trans ey.symm)
end

/-- The map holds just the things of which p is so, each with itself. -/
def RetM (D : DataW Unit) (p : Int → Prop) : Prop := ∀ x : Int, 0 ≤ x → x < 1000 → (Maps.has D (.int .i64 x) = true ↔ p x) ∧ (p x → ∀ z, D.atKey (.int .i64 x) z = .lit (.int .i64 x))

theorem lit_ne {x y : Int} (h : x ≠ y) : Lit.int .i64 x ≠ Lit.int .i64 y := fun e => h (by injection e)
theorem RetM.empty : RetM (.map []) (fun _ => False) := fun x _ _ => ⟨by simp [Maps.has_eq], fun h => h.elim⟩
theorem RetM.congr {D : DataW Unit} {p p' : Int → Prop} (h : RetM D p) (hp : ∀ x, p x ↔ p' x) : RetM D p' := fun x h0 h1 => ⟨(h x h0 h1).1.trans (hp x), fun h2 => (h x h0 h1).2 ((hp x).2 h2)⟩
theorem RetM.put {D : DataW Unit} {p : Int → Prop} (h : RetM D p) (hD : Maps.IsMap D) (y : Int) (hk : WideAt.IsKeyLit (.int .i64 y)) : RetM (D.put (.int .i64 y) (.lit (.int .i64 y))) (fun x => p x ∨ x = y) := by
  intro x h0 h1
  by_cases e : x = y
  · subst e
    exact ⟨by simp [Maps.has_put_same hD hk], fun _ z => Maps.atKey_put_same hD hk _ _⟩
  · rw [Maps.has_put_other (lit_ne e)]
    refine ⟨by simp [(h x h0 h1).1, e], fun hp z => ?_⟩
    rw [Maps.atKey_put_other (lit_ne e)]
    exact (h x h0 h1).2 (by simpa [e] using hp) z
theorem RetM.del {D : DataW Unit} {p : Int → Prop} (h : RetM D p) (y : Int) : RetM (D.del (.int .i64 y)) (fun x => p x ∧ x ≠ y) := by
  intro x h0 h1
  by_cases e : x = y
  · subst e
    exact ⟨by simp [Maps.has_del_same], fun hp => absurd rfl hp.2⟩
  · rw [Maps.has_del_other (lit_ne e)]
    refine ⟨by simp [(h x h0 h1).1, e], fun hp z => ?_⟩
    rw [Maps.atKey_del_other (lit_ne e)]
    exact (h x h0 h1).2 hp.1 z

end Go.Proofs.Ytmmaklddbkdenaa
