/- seen of a leaf, Get of the tree by contract; conditions: the tree is one, lies in memory. -/
import Derived.Test.YthplnecnagbedaaTrOps
namespace Go.Proofs.Ythplnecnagbedaa
open Go.RowKit

theorem row118 : RowT Try.prog 118 3 := rowT_of 118 3 (by kernel_rfl)
def seenC (s : Nat × Nat × Nat) : Array Value := #[.int .i64 (s.1 : Nat), .int .i64 (s.2.1 : Nat), .int .i64 (s.2.2 : Nat)]
theorem seen_any (w : World) (lb nb num : Nat) (least : ByteArray) (N : Nd) (hK : N.K.length = 15) (hV : N.V.length = 15) (hl : Blk w lb 111 #[.int .i64 num, .string least, .pointer (some ⟨nb, 0, none⟩)]) (hN : Blk w nb 95 (ndCells N)) :
    Calls Try.prog 66 #[.pointer (some ⟨lb, 0, none⟩)] w fun e w' => e = .returned (.agg #[.int .i64 (num : Nat), .int .i64 (N.ins : Nat), .int .i64 (N.spl : Nat)]) ∧ Below w.heap.size w w' := by
  have c0 := (hl.alloc (.cells #[.int .i64 0, .int .i64 0, .int .i64 0] 118)).at 0 rfl
  have c2 := (hl.alloc (.cells #[.int .i64 0, .int .i64 0, .int .i64 0] 118)).at 2 rfl
  have hC := counts_any (w.alloc (.cells #[.int .i64 0, .int .i64 0, .int .i64 0] 118)) nb N hK hV (hN.alloc _)
  have hlt := hl.lt
  clear hl hN
  generalize N.ins = ins at *
  generalize N.spl = spl at *
  go_enter Try.func66, Try.ntmps66
  go_wp2_with (go_at_call 33; refine hC.mono ?_; rintro e w2 ⟨rfl, q, rfl⟩)
  refine bodyPost_ret (results_blk rfl _ _ w.heap.size rfl (Blk.conv (((((Blk.new w 118 _).drewN q).set 0 _).set 1 _).set 2 _) rfl) row118) rfl ⟨rfl, ?_⟩
  exact ((((below_drewN ((Below.refl _ w).alloc (Nat.le_refl _) _) q).setCell (Nat.le_refl _) _).setCell (Nat.le_refl _) _).setCell (Nat.le_refl _) _)

/-- Behind Get. -/
def GetTr (w : World) (T : Tr) (k : ByteArray) (l : Lf) (e : Ending) (w' : World) : Prop :=
  ∃ g, w.heap.size ≤ g ∧ e = .returned (.tuple #[.int .i64 (getSpec (entsT T) k).1, .bool (getSpec (entsT T) k).2, .slice (some ⟨g, 0, none⟩) 1 1]) ∧ Blk w' g 118 (seenC (seenL l)) ∧ Below w.heap.size w w'
set_option maxRecDepth 100000 in
theorem get_tr (w : World) (B n : Nat) (M : TrM) (T T1 T2 : Tr) (l : Lf) (ht : TrOk T) (hT : TreeAt B w M T n) (hm : T.length ≤ 1000000) (k : ByteArray) (ha : AtLf T k T1 l T2) :
    Calls Try.prog 51 #[.pointer (some ⟨M.tb, 0, none⟩), .string k] w (GetTr w T k l) := by
  have hF : ∀ q, Calls Try.prog 63 #[.pointer (some ⟨M.tb, 0, none⟩), .string k] (w.drewN q) fun e w' => e = .returned (.int .i64 (T1.length : Nat)) ∧ w' = w.drewN q := fun q => (find_tr (w.drewN q) B _ M T T1 T2 l ht (hT.drewN q) hm k ha).mono fun _ _ (h : _ ∧ _) => And.intro h.1 h.2.symm
  have hok := ht.ok l ha.mem
  have hG : ∀ q, _ := fun q => get_any (w.drewN q) (M.nb l.num) l.nd hok ((hT.drewN q).node l ha.mem) k
  rw [ha.getM ht] at hG
  obtain ⟨b, hb, hblt, _⟩ := hT.look ha.eq
  obtain ⟨c0, c1, c2, c3⟩ := hT.see hb ha.eq
  have hidx := idx_lt ha.eq
  have hS : ∀ W, Below w.heap.size w W → _ := fun W hW => seen_any W (M.lb l.num) (M.nb l.num) l.num l.least l.nd hok.kl hok.vl ((hT.below hW).leaf l ha.mem) ((hT.below hW).node l ha.mem)
  obtain ⟨R, hR⟩ : ∃ R, R = getSpec (entsT T) k := ⟨_, rfl⟩
  rw [← hR] at hG
  have HR := Lib.hid hR
  have HS := Lib.hid hS
  have HG := Lib.hid hG
  clear hR hT ht ha hS hG hok
  obtain ⟨rv, rb⟩ := R
  go_enter Try.func51, Try.ntmps51
  go_upto_region 1 with fail
  go_quiet ((go_at_call 63; exact Calls.quiet_of_same (hF _)))
  go_wp2_with (first
    | (go_at_call 66; refine (HS.out w5 b5').mono ?_; rintro e w6 ⟨rfl, b6⟩)
    | (go_at_call 27; refine (HG.out _).mono ?_; rintro e w5 ⟨rfl, b5⟩; have b5' : Below w.heap.size w w5 := (below_drewN (Below.refl _ w) _).trans b5))
  go_ret3
  have hs5 := b5'.size
  have hs6 := b6.size
  refine ⟨w6.heap.size, by omega, by rw [← HR.out]; rfl, Blk.new w6 118 _, (b5'.trans (b6.mono hs5)).alloc (by omega) _⟩

/-- What a scan or a search saw, as it lies. -/
def RdN3 (w : World) (a : Option Addr) (S : List (Nat × Nat × Nat)) : Prop :=
  ∀ j, j < S.length → ∃ b off, a = some ⟨b, off, none⟩ ∧ b < w.heap.size ∧ w.cell? ⟨b, off + j * 3, none⟩ = some (.int .i64 ((S.getD j (0, 0, 0)).1 : Nat)) ∧ w.cell? ⟨b, off + j * 3 + 1, none⟩ = some (.int .i64 ((S.getD j (0, 0, 0)).2.1 : Nat)) ∧ w.cell? ⟨b, off + j * 3 + 2, none⟩ = some (.int .i64 ((S.getD j (0, 0, 0)).2.2 : Nat))
theorem RdN3.below {w w' : World} {a : Option Addr} {S : List (Nat × Nat × Nat)} (h : RdN3 w a S) (hb : Below w.heap.size w w') : RdN3 w' a S := fun j hj => by
  obtain ⟨b, off, e, hlt, c0, c1, c2⟩ := h j hj
  exact ⟨b, off, e, Nat.lt_of_lt_of_le hlt hb.size, (hb.cell (p := ⟨b, _, none⟩) hlt).trans c0, (hb.cell (p := ⟨b, _, none⟩) hlt).trans c1, (hb.cell (p := ⟨b, _, none⟩) hlt).trans c2⟩
theorem rd3_one {w : World} {g : Nat} {s : Nat × Nat × Nat} (h : Blk w g 118 (seenC s)) : RdN3 w (some ⟨g, 0, none⟩) [s] := fun j hj => by
  simp at hj
  subst hj
  exact ⟨g, 0, rfl, h.lt, h.at 0 rfl, h.at 1 rfl, h.at 2 rfl⟩
/-- Is this leaf as it was seen? -/
def okL (T : Tr) (s : Nat × Nat × Nat) : Bool := T.any fun l => decide (seenL l = s)
theorem okL_of {T : Tr} (hn : Nums T) {l : Lf} (hl : l ∈ T) {s : Nat × Nat × Nat} (hs : l.num = s.1) : okL T s = decide (l.nd.ins = s.2.1 ∧ l.nd.spl = s.2.2) := by
  unfold okL
  rw [Bool.eq_iff_iff]
  simp only [List.any_eq_true, decide_eq_true_eq]
  constructor
  · rintro ⟨m, hm, e⟩
    have : m = l := num_one hn hm hl (by rw [hs, ← e]; rfl)
    subst this
    rw [← e]
    exact ⟨rfl, rfl⟩
  · rintro ⟨h1, h2⟩
    exact ⟨l, hl, by unfold seenL; rw [hs, h1, h2]⟩

end Go.Proofs.Ythplnecnagbedaa
