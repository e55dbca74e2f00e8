/- New and Put of the tree by contract, each road; conditions: the tree is one, lies in memory, and has had few calls. -/
import Derived.Test.YthplnecnagbedaaTrGrow2
namespace Go.Proofs.Ythplnecnagbedaa
open Go.RowKit

def NewTr (w : World) (e : Ending) (w' : World) : Prop := ∃ M T, e = .returned (.pointer (some ⟨M.tb, 0, none⟩)) ∧ TreeAt w.heap.size w' M T 0 ∧ TrOk T ∧ entsT T = [] ∧ Bnd 0 T ∧ Below w.heap.size w w'
theorem tr0_ok : TrOk [⟨0, emp, nd0⟩] :=
  ⟨⟨_, [], rfl, rfl⟩, (fun l hl => by simp at hl; subst hl; exact nd0_ok), by simp, (fun l hl e he => by simp at hl; subst hl; rw [nd0_ents] at he; cases he), by simp⟩
theorem tree0 {B : Nat} {w : World} {tb : Nat} (hb : Blk w tb 106 #[.slice none 0 0, .slice none 0 0, .int .i64 0]) (hB : B ≤ tb) : TreeAt B w ⟨tb, none, 0, none, 0, []⟩ [] 0 :=
  ⟨hb, World.ownsRow_nil _ _ _ _, World.ownsRow_nil _ _ _ _, (fun l hl => by cases hl), (fun l hl => by cases hl), List.nodup_nil, rfl, (fun q hq => by cases hq), List.Perm.refl _, hB, (fun p hp => by cases hp)⟩
set_option maxRecDepth 100000 in
theorem new_tr (w : World) : Calls Try.prog 40 #[] w (NewTr w) := by
  go_enter Try.func40, Try.ntmps40
  go_upto_region 2 with fail
  have hb0 : Blk (w.alloc (.cells #[.slice none 0 0, .slice none 0 0, .int .i64 0] 106)) w.heap.size 106 #[.slice none 0 0, .slice none 0 0, .int .i64 0] := Blk.new _ _ _
  have hs0 : (w.alloc (.cells #[.slice none 0 0, .slice none 0 0, .int .i64 0] 106)).heap.size = w.heap.size + 1 := by simp
  have hbl0 : Below w.heap.size w (w.alloc (.cells #[.slice none 0 0, .slice none 0 0, .int .i64 0] 106)) := (Below.refl _ w).alloc (Nat.le_refl _) _
  have HB0 := Lib.hid hb0
  have HS0 := Lib.hid hs0
  have HBL := Lib.hid hbl0
  clear hb0 hs0 hbl0
  go_wp2_with (first
    | (go_at_call 62; refine (grow_tr w3 w.heap.size 0 ⟨w.heap.size, none, 0, none, 0, []⟩ [] (tree0 (HB0.out.below b3 (by rw [HS0.out]; omega)) (Nat.le_refl _)) (by simp) 0 (by simp) ⟨#[]⟩ (w3.heap.size - 1) nd0 hN (by simp [TrM.F]; have := HS0.out; omega) (by have := HS0.out; omega)).mono ?_; rintro e w4 ⟨rfl, M', h1, h2, h3, h4⟩)
    | (go_at_call 24; refine (new_any _).mono ?_; rintro e w3 ⟨rfl, hN, b3, hlt3⟩))
  go_ret
  have hsz := HS0.out
  have hb3 := b3.size
  refine ⟨M', _, by rw [h2]; rfl, h1, tr0_ok, ?_, ⟨by simp, fun l hl => ?_⟩, ?_⟩
  · simp [entsT, nd0_ents]
  · simp at hl; subst hl; exact ⟨Nat.le_refl _, Nat.le_refl _⟩
  · exact (HBL.out.trans (b3.mono (by omega))).trans (h4.below (by omega) (fun k hk => by simp [TrM.F] at hk; omega))

/-- Behind Put. -/
def PutTr (B : Nat) (w : World) (M : TrM) (T : Tr) (k : ByteArray) (v : Int) (e : Ending) (w' : World) : Prop :=
  ∃ T' r, PutT T k v T' r ∧ e = .returned (.tuple #[.int .i64 r.1, .bool r.2.1, .int .i64 r.2.2]) ∧ TrTo B w M T' (entsT T').length w'
section
variable {B n : Nat} {w w' : World} {M : TrM} {T T1 T2 : Tr} {l : Lf}
theorem TreeAt.see (h : TreeAt B w M T n) {b : Nat} (hb : M.a = some ⟨b, 0, none⟩) (e : T = T1 ++ l :: T2) : w.cell? ⟨M.tb, 0, none⟩ = some (.slice (some ⟨b, 0, none⟩) T.length M.k) ∧ w.cell? ⟨b, T1.length, none⟩ = some (.pointer (some ⟨M.lb l.num, 0, none⟩)) ∧ w.cell? ⟨M.lb l.num, 2, none⟩ = some (.pointer (some ⟨M.nb l.num, 0, none⟩)) ∧ w.cell? ⟨M.tb, 2, none⟩ = some (.int .i64 (n : Nat)) := by
  obtain ⟨b', e1, _, h1, h2, _⟩ := h.look e
  rw [hb] at e1
  injection e1 with e1
  injection e1 with e1
  subst e1
  have c0 := h.blk.at 0 rfl
  rw [hb] at c0
  exact ⟨c0, h1, h2.at 2 rfl, h.blk.at 2 rfl⟩
theorem TrTo.same (h : TreeAt B w M T n) : TrTo B w M T n w := ⟨M, h, rfl, fun _ hq => .inl hq, Chg.refl _ _⟩
theorem TrTo.below (h : TrTo B w M T n w') {w2 : World} (hb : Below w'.heap.size w' w2) : TrTo B w M T n w2 := by
  obtain ⟨M', h1, h2, h3, h4⟩ := h
  exact ⟨M', h1.below hb, h2, h3, h4.trans (Chg.of_below hb []) (by simp)⟩
theorem below_to {w1 : World} (hb : Below w.heap.size w w1) (h : TrTo B w1 M T n w') : TrTo B w M T n w' := by
  obtain ⟨M', h1, h2, h3, h4⟩ := h
  have := hb.size
  refine ⟨M', h1, h2, fun q hq => ?_, (Chg.of_below hb M.F).trans h4 (fun q hq => .inl hq)⟩
  rcases h3 q hq with h | h
  · exact .inl h
  · right; omega
theorem idx_lt (e : T = T1 ++ l :: T2) : (T1.length : Int) < (T.length : Int) := by rw [e]; simp; omega
end

set_option maxRecDepth 100000 in
theorem put_long (w : World) (B : Nat) (M : TrM) (T : Tr) (ht : TrOk T) (hT : TreeAt B w M T (entsT T).length) (k : ByteArray) (v : Int) (hk : 4096 < k.size) :
    Calls Try.prog 43 #[.pointer (some ⟨M.tb, 0, none⟩), .string k, .int .i64 v] w (PutTr B w M T k v) := by
  have HT := Lib.hid hT
  clear hT
  have hk' : (4096 : Int) < (k.size : Int) := by omega
  go_enter Try.func43, Try.ntmps43
  go_wp2_with fail
  go_ret3
  exact ⟨T, (0, false, 2), putT_long ht hk, rfl, TrTo.same HT.out⟩

set_option maxRecDepth 100000 in
set_option maxHeartbeats 1000000 in
theorem put_full (w : World) (B n : Nat) (M : TrM) (T T1 T2 : Tr) (l : Lf) (ht : TrOk T) (hT : TreeAt B w M T (entsT T).length) (hn : Bnd n T) (hn2 : n ≤ 10000) (k : ByteArray) (v : Int) (hk : ¬ 4096 < k.size) (ha : AtLf T k T1 l T2) (hh : hasE l.nd.ents k = false) (hf : 4096 ≤ (entsT T).length) :
    Calls Try.prog 43 #[.pointer (some ⟨M.tb, 0, none⟩), .string k, .int .i64 v] w (PutTr B w M T k v) := by
  have hF := find_tr w B _ M T T1 T2 l ht hT (by have := hn.1; omega) k ha
  have hok := ht.ok l ha.mem
  have hG := get_any w (M.nb l.num) l.nd hok (hT.node l ha.mem) k
  rw [getM_no hh] at hG
  have hhT := ha.has ht
  rw [hh] at hhT
  have hPT := putT_full (v := v) ht hk hhT hf
  obtain ⟨b, hb, _⟩ := hT.look ha.eq
  obtain ⟨c0, c1, c2, c3⟩ := hT.see hb ha.eq
  have hidx := idx_lt ha.eq
  have htl := hT.blk.lt
  have hk' : ¬ (4096 : Int) < (k.size : Int) := by omega
  have hf' : (4096 : Int) ≤ ((entsT T).length : Int) := by omega
  have HT := Lib.hid hT
  have HP := Lib.hid hPT
  have HA := Lib.hid ha
  clear hT hPT ha ht hn hb hhT hh hok hf
  go_enter Try.func43, Try.ntmps43
  go_upto_region 4 with (go_at_call 63; refine hF.mono ?_; rintro e w' ⟨rfl, rfl⟩)
  go_upto_region 5 with (go_at_call 27; refine hG.mono ?_; rintro e w2 ⟨rfl, b2⟩)
  have d3 := (b2.cell (p := ⟨M.tb, 2, none⟩) htl).trans c3
  clear c0 c1 c2 c3
  go_wp2_with fail
  go_ret3
  exact ⟨T, (0, false, 2), HP.out, rfl, (TrTo.same HT.out).below b2⟩

end Go.Proofs.Ythplnecnagbedaa
