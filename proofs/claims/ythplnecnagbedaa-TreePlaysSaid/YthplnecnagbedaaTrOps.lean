/- Put, Take, Len of the tree by contract; conditions: the tree is one, lies in memory, and has had few calls. -/
import Derived.Test.YthplnecnagbedaaTrPut4
import Derived.Test.YthplnecnagbedaaTrPut5
import Derived.Deep.QuietTactic
import Derived.BigQuiet
import Derived.StillTailTactics
namespace Go.Proofs.Ythplnecnagbedaa
open Go.RowKit

theorem put_tr (w : World) (B n : Nat) (M : TrM) (T : Tr) (ht : TrOk T) (hT : TreeAt B w M T (entsT T).length) (hn : Bnd n T) (hn2 : n ≤ 10000) (k : ByteArray) (v : Int) :
    Calls Try.prog 43 #[.pointer (some ⟨M.tb, 0, none⟩), .string k, .int .i64 v] w (PutTr B w M T k v) := by
  by_cases hk : 4096 < k.size
  · exact put_long w B M T ht hT k v hk
  · obtain ⟨T1, l, T2, ha, _⟩ := findT_at ht k
    cases hh : hasE l.nd.ents k with
    | true => exact put_old_tr w B n M T T1 T2 l ht hT hn hn2 k v hk ha hh
    | false =>
      by_cases hf : 4096 ≤ (entsT T).length
      · exact put_full w B n M T T1 T2 l ht hT hn hn2 k v hk ha hh hf
      · by_cases hu : l.nd.u = 15
        · cases hb : bl k ((upperM l.nd).getD 0 emp) with
          | true => exact put_split_left w B n M T T1 T2 l ht hT hn hn2 k v hk ha hh (by omega) hu hb
          | false => exact put_split_right w B n M T T1 T2 l ht hT hn hn2 k v hk ha hh (by omega) hu hb
        · exact put_new_tr w B n M T T1 T2 l ht hT hn hn2 k v hk ha hh (by omega) hu

/-- Behind Take. -/
def TakeTr (B : Nat) (w : World) (M : TrM) (T : Tr) (k : ByteArray) (e : Ending) (w' : World) : Prop :=
  ∃ T' r, TakeT T k T' r ∧ e = .returned (.tuple #[.int .i64 r.1, .int .i64 r.2]) ∧ TrTo B w M T' (entsT T').length w'
section
variable {B n : Nat} {w w' : World} {M : TrM} {T T1 T2 : Tr} {l : Lf}
theorem TreeAt.drew (h : TreeAt B w M T n) : TreeAt B w.drew M T n := h.chg ((Chg.refl [] w).drew) (by simp)
theorem take_node (h : TreeAt B w M (T1 ++ l :: T2) n) (hok : NdOk l.nd) (hi : l.nd.ins < 4611686018427387904) (k : ByteArray) (u e : Int) (hr : (takeM l.nd k).2 = (u, e)) :
    Calls Try.prog 28 #[.pointer (some ⟨M.nb l.num, 0, none⟩), .string k] w fun en w' => en = .returned (.tuple #[.int .i64 u, .int .i64 e]) ∧ TreeAt B w' M (T1 ++ ⟨l.num, l.least, (takeM l.nd k).1⟩ :: T2) n ∧ Chg M.F w w' ∧ w.heap.size ≤ w'.heap.size :=
  (take_any w (M.nb l.num) l.nd hok hi (h.node l (by simp)) k).mono fun en w' ⟨h1, h2, h3⟩ => by
    rw [hr] at h1
    exact ⟨h1, h.setNode h2 h3, h3.more (fun q hq => .inl (by simp at hq; rw [hq]; exact h.nbF (by simp))), h3.size⟩
theorem takeT_len {T' : Tr} {k : ByteArray} {r : Int × Int} (h : TakeT T k T' r) : (entsT T').length = if hasE (entsT T) k then (entsT T).length - 1 else (entsT T).length := by
  rw [h.ents]
  unfold takeSpec
  cases hc : hasE (entsT T) k with
  | true =>
    obtain ⟨u, hu⟩ := get_of_has hc
    rw [hu]
    dsimp only
    rw [take_len, hc]
  | false => rw [get_has hc]; rfl
end

set_option maxRecDepth 100000 in
set_option maxHeartbeats 1000000 in
theorem take_tr (w : World) (B n : Nat) (M : TrM) (T : Tr) (ht : TrOk T) (hT : TreeAt B w M T (entsT T).length) (hn : Bnd n T) (hn2 : n ≤ 10000) (hle : (entsT T).length ≤ 1000000) (k : ByteArray) :
    Calls Try.prog 46 #[.pointer (some ⟨M.tb, 0, none⟩), .string k] w (TakeTr B w M T k) := by
  obtain ⟨T1, l, T2, ha, _⟩ := findT_at ht k
  have hF := (find_tr w.drew B _ M T T1 T2 l ht hT.drew (by have := hn.1; omega) k ha).mono fun _ _ (h : _ ∧ _) => And.intro h.1 h.2.symm
  have hok := ht.ok l ha.mem
  obtain ⟨b, hb, hblt, _⟩ := hT.look ha.eq
  obtain ⟨c0, c1, c2, c3⟩ := hT.see hb ha.eq
  have hT1 := hT
  rw [ha.eq] at hT1
  have eT : (entsT (T1 ++ l :: T2)).length = (entsT T).length := by rw [← ha.eq]
  rw [eT] at hT1
  have hidx := idx_lt ha.eq
  have htl := hT.blk.lt
  have hTk := takeT_any ht ha
  have hlen := takeT_len hTk
  have hhas := ha.has ht
  have hi : l.nd.ins < 4611686018427387904 := by have := (hn.2 l ha.mem).1; omega
  cases hh : hasE l.nd.ents k with
  | true =>
    obtain ⟨u, hu⟩ := get_of_has hh
    have hr : (takeM l.nd k).2 = (u, 0) := by rw [takeM_out hok]; unfold takeOut; rw [hu]
    rw [hh] at hhas
    rw [hhas, if_pos rfl] at hlen
    have hpos : 0 < (entsT T).length := by have := has_lt hhas; omega
    have hN := take_node hT1.drew hok hi k u 0 hr
    rw [hr] at hTk
    have HTK := Lib.hid hTk
    have HL := Lib.hid hlen
    have HB := Lib.hid hT1
    obtain ⟨p, hp⟩ : ∃ p, (entsT T).length = p + 1 := ⟨(entsT T).length - 1, by omega⟩
    rw [hp] at c3 hle
    have HP := Lib.hid hp
    clear hT1 hT ht hn ha eT hTk hlen hhas hh hu hr hok hi hpos hp
    go_enter Try.func46, Try.ntmps46
    go_upto_region 1 with fail
    go_region_with (first | (go_at_call 28; refine hN.mono ?_; rintro e w3 ⟨rfl, hT3, hc3, hs3⟩) | (go_at_call 63; refine hF.mono ?_; rintro e w' ⟨rfl, rfl⟩))
    all_goals
      have g3 := hT3.blk.at 2 rfl
      have gf := hT3.blk.free 2
      have h2 := HP.out
      rw [h2] at g3
      have HT3 := Lib.hid hT3
      clear hT3 c0 c1 c2 c3 hF hN h2
      go_wp2_with fail
      go_ret2
      refine ⟨_, _, HTK.out, rfl, ?_⟩
      have hl := HL.out
      have h2 := HP.out
      rw [hl, h2]
      have e3 : ((p + 1 : Nat) : Int) - 1 = (p : Int) := by omega
      have := HT3.out.setMany p
      have hfin : TrTo B w M (T1 ++ ⟨l.num, l.least, (takeM l.nd k).1⟩ :: T2) (p + 1 - 1) (w3.setCell ⟨M.tb, 2, none⟩ (.int .i64 (p : Nat))) := ⟨M, this, rfl, fun _ hq => .inl hq, (((Chg.refl M.F w).drew).trans hc3 (fun _ hq => .inl hq)).setCell (.inl (TreeAt.tbF M)) _⟩
      first | exact hfin | (rw [← e3] at hfin; exact hfin) | (simpa using hfin)
  | false =>
    have hr : (takeM l.nd k).2 = (0, 5) := by rw [takeM_out hok]; unfold takeOut; rw [get_has hh]
    rw [hh] at hhas
    rw [hhas, if_neg (by simp)] at hlen
    have hN := take_node hT1.drew hok hi k 0 5 hr
    rw [hr] at hTk
    have HTK := Lib.hid hTk
    have HL := Lib.hid hlen
    have HB := Lib.hid hT1
    clear hT1 hT ht hn ha eT hTk hlen hhas hh hr hok hi
    go_enter Try.func46, Try.ntmps46
    go_upto_region 1 with fail
    go_region_with (first | (go_at_call 28; refine hN.mono ?_; rintro e w3 ⟨rfl, hT3, hc3, hs3⟩) | (go_at_call 63; refine hF.mono ?_; rintro e w' ⟨rfl, rfl⟩))
    all_goals
      go_wp2_with fail
      go_ret2
      refine ⟨_, _, HTK.out, rfl, ?_⟩
      have hl := HL.out
      rw [hl]
      exact ⟨M, hT3, rfl, fun _ hq => .inl hq, ((Chg.refl M.F w).drew).trans hc3 (fun _ hq => .inl hq)⟩

theorem len_tr (w : World) (B n : Nat) (M : TrM) (T : Tr) (hT : TreeAt B w M T n) :
    Calls Try.prog 45 #[.pointer (some ⟨M.tb, 0, none⟩)] w fun e w' => e = .returned (.int .i64 (n : Nat)) ∧ w = w' := by
  have c2 := hT.blk.at 2 rfl
  clear hT
  go_enter Try.func45, Try.ntmps45
  go_wp2
  go_ret
  exact ⟨rfl, rfl⟩


end Go.Proofs.Ythplnecnagbedaa
