/- The memory of the law EpochFrees: the clock, the array of entries, the map of retired things, apart; conditions: none. -/
import Derived.Test.YtmmaklddbkdenaaFreesPure
namespace Go.Proofs.Ytmmaklddbkdenaa
open Go.RowKit Go.Maps

theorem keyed3 : Keyed Try.prog 3 := int_keyed Try.underlying3
theorem zero3 (w : World) : (zeroValue 3).run Try.prog w = .ok (.int .i64 0) w := by kernel_rfl

abbrev MapIs (w : World) (b n : Nat) (D : DataW Unit) : Prop := w.ownsMap Try.prog 3 (plainElem Try.prog 3) b n D

theorem map_chg {w w' : World} {l : List Nat} {b n : Nat} {D : DataW Unit} (h : MapIs w b n D) (hc : Chg l w w') (hn : b ∉ l) : MapIs w' b n D := by
  obtain ⟨es, clock, hb, r⟩ := h
  have hlt : b < w.heap.size := by
    rcases Nat.lt_or_ge b w.heap.size with h | h
    · exact h
    · rw [Array.getElem?_eq_none h] at hb; cases hb
  exact ⟨es, clock, (hc.block b hlt hn).trans hb, r⟩
theorem map_lt {w : World} {b n : Nat} {D : DataW Unit} (h : MapIs w b n D) : b < w.heap.size := by
  obtain ⟨es, clock, hb, r⟩ := h
  rcases Nat.lt_or_ge b w.heap.size with h | h
  · exact h
  · rw [Array.getElem?_eq_none h] at hb; cases hb
theorem map_ne {w : World} {b n g : Nat} {D : DataW Unit} {t : TypeId} {cs : Array Value} (h : MapIs w b n D) (hb : Blk w g t cs) : b ≠ g := by
  rintro rfl
  obtain ⟨es, clock, h1, _⟩ := h
  unfold Blk at hb
  rw [h1] at hb; cases hb
theorem map_own {w : World} {b n : Nat} {D : DataW Unit} {base : Nat} {e : TypeId} {size m : Nat} {v : Value} {xs : List Value} (h : MapIs w b n D) (ho : w.ownsRow base e size v m xs) : v.ownBlock ≠ some b := by
  intro hv
  rcases ho.2 with ⟨rfl, _⟩ | ⟨g, cap, cur, rfl, _, hg, _⟩
  · cases hv
  · simp only [Value.ownBlock, Option.some.injEq] at hv
    subst hv
    exact map_ne h (g := g) (t := e) (cs := cur) hg rfl

theorem FInv.first {k : Ck} (h : Good k) : FInv 0 k [] (List.replicate 16 0) := by
  have hz : ∀ q, (List.replicate 16 (0 : Int)).getD q 0 = 0 := fun q => by
    rw [List.getD, List.getElem?_replicate]
    split <;> rfl
  exact ⟨h, List.length_replicate, fun q => by rw [hz]; omega, fun q hq => by rw [hz] at hq; omega, (fun x hx => nomatch hx), (fun x hx => nomatch hx), List.Pairwise.nil, by simp⟩

theorem lit_inj {x y : Int} (h : (DataW.lit (.int .i64 x) : DataW Unit) = .lit (.int .i64 y)) : x = y := by
  injection h with h; injection h
theorem drop_cons (tl : List Int) (i : Nat) (hi : i < tl.length) : tl.drop i = tl.getD i 0 :: tl.drop (i + 1) := by
  rw [List.drop_eq_getElem_cons hi]; simp [List.getD, hi]
theorem drop_split {tl : List Int} (h : tl.Nodup) {i : Nat} (hi : i < tl.length) {p : Int → Prop} (hp : ¬ p (tl.getD i 0)) (x : Int) : ((p x ∨ x ∈ tl.drop i) ∧ x ≠ tl.getD i 0) ↔ (p x ∨ x ∈ tl.drop (i + 1)) := by
  have hn : (tl.drop i).Nodup := h.sublist (List.drop_sublist i tl)
  rw [drop_cons tl i hi] at hn ⊢
  have hn1 := (List.nodup_cons.1 hn).1
  constructor
  · rintro ⟨h1 | h1, h2⟩
    · exact .inl h1
    · rcases List.mem_cons.1 h1 with e | e
      · exact absurd e h2
      · exact .inr e
  · rintro (h1 | h1)
    · exact ⟨.inl h1, fun e => hp (e ▸ h1)⟩
    · exact ⟨.inr (List.mem_cons_of_mem _ h1), fun e => hn1 (e ▸ h1)⟩

/-- The clock, the entries, the map. -/
structure Fr (B : Nat) (w0 w : World) (c bw be bm : Nat) (tv : Value) (k : Ck) (ts : List (Int × Int)) (ent : List Int) (n : Nat) (D : DataW Unit) : Prop where
  C : IsClock w c bw tv k
  T : Things w tv ts
  E : Blk w be 30 (atV ent)
  M : MapIs w bm n D
  bel : Below B w0 w
  bc : B ≤ c
  bb : B ≤ bw
  b3 : B ≤ be
  b4 : B ≤ bm
  at_ : Above B tv

section
variable {B : Nat} {w0 w w' : World} {c bw be bm : Nat} {tv tv' : Value} {k k' : Ck} {ts ts' : List (Int × Int)} {ent : List Int} {n n' : Nat} {D D' : DataW Unit} {l : List Nat}
theorem Fr.size (h : Fr B w0 w c bw be bm tv k ts ent n D) : B ≤ w.heap.size := by have := h.C.1.lt; have := h.bc; omega
theorem Fr.out (h : Fr B w0 w c bw be bm tv k ts ent n D) (hl : ∀ q ∈ l, q = c ∨ q = bw ∨ tv.ownBlock = some q) : be ∉ l ∧ bm ∉ l ∧ ∀ q ∈ l, B ≤ q := by
  refine ⟨fun hm => ?_, fun hm => ?_, fun q hm => ?_⟩
  · rcases hl _ hm with e | e | e
    · exact h.E.ne h.C.1 (by decide) e
    · exact h.E.ne h.C.2 (by decide) e
    · exact own_ne h.T h.E (by decide) e.symm
  · rcases hl _ hm with e | e | e
    · exact map_ne h.M h.C.1 e
    · exact map_ne h.M h.C.2 e
    · exact map_own h.M h.T e
  · rcases hl _ hm with rfl | rfl | e
    · exact h.bc
    · exact h.bb
    · exact h.at_ q e
theorem Fr.clk (h : Fr B w0 w c bw be bm tv k ts ent n D) (hC : IsClock w' c bw tv' k') (hT : Things w' tv' ts') (hc : Chg l w w') (hl : ∀ q ∈ l, q = c ∨ q = bw ∨ tv.ownBlock = some q) (hm : Moved w tv tv') : Fr B w0 w' c bw be bm tv' k' ts' ent n D := by
  obtain ⟨n1, n2, n3⟩ := h.out hl
  exact { h with C := hC, T := hT, E := h.E.chg hc n1, M := map_chg h.M hc n2, bel := below_chg h.bel hc h.size n3, at_ := h.at_.moved hm h.size }
theorem Fr.clk2 (h : Fr B w0 w c bw be bm tv k ts ent n D) (hC : IsClock w' c bw tv k') (hc : Chg l w w') (hl : ∀ q ∈ l, q = c ∨ q = bw) : Fr B w0 w' c bw be bm tv k' ts ent n D := by
  refine h.clk hC (own_chg h.T hc fun g hg hm => ?_) hc (fun q hq => (hl q hq).elim .inl (fun e => .inr (.inl e))) (.inl rfl)
  rcases hl _ hm with e | e
  · exact own_ne h.T h.C.1 (by decide) (e ▸ hg.symm)
  · exact own_ne h.T h.C.2 (by decide) (e ▸ hg.symm)
theorem Fr.alloc (h : Fr B w0 w c bw be bm tv k ts ent n D) (o : Obj) : Fr B w0 (w.alloc o) c bw be bm tv k ts ent n D := by
  have hc : Chg [] w (w.alloc o) := (Chg.refl _ _).alloc o
  exact { h with C := h.C.chg hc (by simp) (by simp), T := own_chg h.T hc (fun _ _ => by simp), E := h.E.chg hc (by simp), M := map_chg h.M hc (by simp), bel := below_chg h.bel hc h.size (by simp) }
theorem Fr.set (h : Fr B w0 w c bw be bm tv k ts ent n D) {m : Nat} (hm : m < ent.length) (v : Int) : Fr B w0 (w.setCell ⟨be, m, none⟩ (.int .i64 v)) c bw be bm tv k ts (ent.set m v) n D := by
  have hc : Chg [be] w (w.setCell ⟨be, m, none⟩ (.int .i64 v)) := (Chg.refl _ _).setCell (.inl (by simp)) _
  refine { h with C := h.C.chg hc ?_ ?_, T := own_chg h.T hc (fun g hg hx => ?_), E := by rw [← atV_set hm]; exact h.E.set m _, M := map_chg h.M hc ?_, bel := below_chg h.bel hc h.size (by simpa using h.b3) }
  · simpa using h.C.1.ne h.E (by decide)
  · simpa using h.C.2.ne h.E (by decide)
  · exact own_ne h.T h.E (by decide) (by simp only [List.mem_singleton] at hx; rw [hg, hx])
  · simpa using map_ne h.M h.E
theorem Fr.map (h : Fr B w0 w c bw be bm tv k ts ent n D) (hM : MapIs w' bm n' D') (hg : w.grownBy w' (some bm)) : Fr B w0 w' c bw be bm tv k ts ent n' D' := by
  have hc : Chg [bm] w w' := Chg.of_grown hg (fun g hg => by injection hg with hg; subst hg; exact .inl (by simp))
  refine { h with C := h.C.chg hc ?_ ?_, T := own_chg h.T hc (fun g hg hx => ?_), E := h.E.chg hc ?_, M := hM, bel := below_chg h.bel hc h.size (by simpa using h.b4) }
  · simpa using (map_ne h.M h.C.1).symm
  · simpa using (map_ne h.M h.C.2).symm
  · simp only [List.mem_singleton] at hx; exact map_own h.M h.T (hx ▸ hg)
  · simpa using (map_ne h.M h.E).symm
theorem chg_map {b : Nat} (hg : w.grownBy w' (some b)) : Chg [b] w w' := Chg.of_grown hg (fun g hg => by injection hg with hg; subst hg; exact .inl (by simp))
end

end Go.Proofs.Ytmmaklddbkdenaa
