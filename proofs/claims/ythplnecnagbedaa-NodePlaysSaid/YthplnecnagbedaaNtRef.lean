/- Parts and Word of the document's package for nodes, each by its contract; conditions: a word is below 2 to the 64, slots below sixteen. -/
import Derived.Test.YthplnecnagbedaaNtCheck
import Derived.Maps.AppendAt
namespace Go.Proofs.Ythplnecnagbedaa
open Go.RowKit

/-- A row of the call's own, of numbers, from block B on. -/
def OwnN (B : Nat) (w : World) (v : Value) (l : List Nat) : Prop := w.ownsRow B 3 1 v l.length (pvl l)
section
variable {B B1 : Nat} {w w' : World} {v v' : Value} {l C : List Nat}
theorem OwnN.below (h : OwnN B w v l) (hb : Below B1 w w') (hv : ∀ g, v.ownBlock = some g → g < B1) : OwnN B w' v l := by
  refine ⟨h.1, ?_⟩
  rcases h.2 with h0 | ⟨g, cap, cur, rfl, hB, hg, rest⟩
  · exact .inl h0
  · exact .inr ⟨g, cap, cur, rfl, hB, (hb.block g (hv g rfl)).trans hg, rest⟩
theorem OwnN.lt (h : OwnN B w v l) : ∀ g, v.ownBlock = some g → B ≤ g ∧ g < w.heap.size := fun g hg => by
  rcases h.2 with ⟨rfl, _⟩ | ⟨g', cap, cur, rfl, hB, hg', _⟩
  · cases hg
  · injection hg with hg; subst hg
    exact ⟨hB, (show Blk w g' 3 cur from hg').lt⟩
theorem OwnN.app (h : OwnN B w v l) (hz : B ≤ w.heap.size) (hg : w.grownBy w' v.ownBlock) : Below B w w' :=
  (Below.refl B w).grown hg hz (fun g hg => (h.lt g hg).1)
theorem OwnN.at (h : OwnN B w v l) {j x : Nat} (hj : l[j]? = some x) : ∃ g cap, v = .slice (some ⟨g, 0, none⟩) l.length cap ∧ l.length ≤ cap ∧ B ≤ g ∧ g < w.heap.size ∧ w.cell? ⟨g, j, none⟩ = some (.int .i64 x) := by
  have hjl : j < l.length := (List.getElem?_eq_some_iff.1 hj).1
  rcases h.2 with ⟨_, h0⟩ | ⟨g, cap, cur, rfl, hB, hg, h3, h4, h5, h6⟩
  · omega
  · have hg' : Blk w g 3 cur := hg
    refine ⟨g, cap, rfl, h3, hB, hg'.lt, hg'.at j ?_⟩
    have : (pvl l)[j]? = some (.int .i64 x) := by simp [pvl, hj]
    rw [← h6, List.getElem?_take, if_pos (by omega)] at this
    simpa using this
theorem own_nil (B : Nat) (w : World) : OwnN B w (.slice none 0 0) [] := World.ownsRow_nil _ _ _ _
end

theorem Try.info3 : (Try.prog.info? 3).map (fun i => (i.zero, i.size, i.bytes)) = some (some (.int .i64 0), 1, 8) := by kernel_rfl
theorem Try.underlying62 : Try.prog.underlying 62 = some (.slice 3) := by kernel_rfl

/-- Numbers appended to a row of the call's own (none at all is let in). -/
theorem wpList_appN {ops : Array Oper} {rest : List Oper} {o : Oper} {a : Act} {w : World} {Q : Exit → Act → World → Prop} (hgd : o.guard = none) (s x : Operand)
    (ho : o.op = .call { callee := .builtin .append, args := #[s, x], argTypes := #[62, 62] }) (B : Nat) (v : Value) (l : List Nat) (hs : a.eval s = v) (hO : OwnN B w v l)
    (C : List Nat) (ad : Addr) (m c : Nat) (hm : C.length = m) (hx : a.eval x = .slice (some ad) m c) (hnews : ∀ j u, (pvl C)[j]? = some u → w.cell? (ad.add j) = some u) (hsz : l.length + C.length ≤ 1000000) (hB : B ≤ w.heap.size)
    (h : ∀ v' w', OwnN B w' v' (l ++ C) → w.grownBy w' v.ownBlock → Below B w w' → wpList Try.prog ops Q rest (a.put o.dst v') w') : wpList Try.prog ops Q (o :: rest) a w := by
  obtain ⟨i0, hi, hz0, hz1, hz2⟩ := info_parts Try.info3
  subst hm
  refine wpList_append_own_at w hgd s x 62 ho B 3 i0 (.int .i64 0) 1 8 Try.underlying62 hi hz0 hz1 hz2 rfl (by decide) v l.length (pvl l) hs hO ad C.length c (pvl C) hx (by rw [pvl_len]; omega) hnews (pvl_one C) (by unfold maxLen; omega) (by omega) hB ?_
  intro v' w' h1 h2 _ _
  refine h v' w' ?_ h2 (hO.app hB h2)
  unfold OwnN
  rw [List.length_append, show pvl (l ++ C) = pvl l ++ pvl C by simp [pvl]]
  exact h1
theorem news_one (w : World) (d : Nat) : ∀ j u, (pvl [d])[j]? = some u → (w.alloc (.cells #[.int .i64 d] 3)).cell? ((⟨w.heap.size, 0, none⟩ : Addr).add j) = some u := cell_one_new w _ 3
theorem OwnN.alloc {B : Nat} {w : World} {v : Value} {l : List Nat} (h : OwnN B w v l) (o : Obj) : OwnN B (w.alloc o) v l := by
  refine ⟨h.1, ?_⟩
  rcases h.2 with h0 | ⟨g, cap, cur, rfl, hB, hg, rest⟩
  · exact .inl h0
  · exact .inr ⟨g, cap, cur, rfl, hB, (Below.heap_alloc w o g (show Blk w g 3 cur from hg).lt).trans hg, rest⟩
theorem OwnN.nilv {B : Nat} {w : World} {v : Value} {l : List Nat} (h : OwnN B w v l) : ∃ A cap, v = .slice A l.length cap ∧ l.length ≤ cap := own_form h

theorem u64_quo16 (y : Nat) (h : y < 18446744073709551616) : IntKind.u64.wrap ((y : Int) / 16) = ((y / 16 : Nat) : Int) := by rw [IntKind.wrap_u64]; omega
theorem tmod16 (y : Nat) : (y : Int).tmod 16 = ((y % 16 : Nat) : Int) := by rw [Int.tmod_eq_emod_of_nonneg (by omega)]; omega

theorem slots_next (x j : Nat) (h : j < 15) : (slotsL x)[j]? = some (x / 16 ^ (j + 1) % 16) := by
  unfold slotsL
  rw [digs_get _ _ _ h, Nat.div_div_eq_div_mul, Nat.pow_succ, Nat.mul_comm]

set_option maxRecDepth 100000 in
set_option maxHeartbeats 1000000 in
theorem parts_any (w : World) (x : Nat) (hx : x < 18446744073709551616) : Calls Try.prog 56 #[.int .u64 x] w fun e w' => ∃ v, e = .returned (.tuple #[.int .i64 (x % 16 : Nat), v]) ∧ OwnN w.heap.size w' v (slotsL x) ∧ Below w.heap.size w w' := by
  have hu : x % 16 < 16 := Nat.mod_lt _ (by omega)
  have e0 := tmod16 x
  generalize x % 16 = u at hu e0 ⊢
  go_enter Try.func56, Try.ntmps56
  go_wp2
  go_loopg [0, 5, 6] 15 (fun gn y v i wr => ∃ (j : Nat), j ≤ 15 ∧ i = .int .i64 j ∧ y = .int .u64 (x / 16 ^ j : Nat) ∧ gn = 15 - j ∧ OwnN w.heap.size wr v ((slotsL x).take j) ∧ Below w.heap.size w wr)
  case atStart => exact ⟨0, by omega, rfl, by simp, rfl, own_nil _ _, Below.refl _ _⟩
  case round =>
    obtain ⟨j, hj, rfl, rfl, rfl, hO, hb⟩ := hrel
    have hl := slots_len x
    by_cases h15 : j < 15
    · have hn := slots_next x j h15
      have hjl : j < (slotsL x).length := by omega
      have hd : (slotsL x).take (j + 1) = (slotsL x).take j ++ [x / 16 ^ (j + 1) % 16] := by
        rw [List.take_succ_eq_append_getElem hjl]
        rw [List.getElem?_eq_getElem hjl] at hn
        injection hn with hn
        rw [hn]
      have hdd : x / 16 ^ j / 16 = x / 16 ^ (j + 1) := by rw [Nat.div_div_eq_div_mul, Nat.pow_succ]
      have hlt : x / 16 ^ j < 18446744073709551616 := Nat.lt_of_le_of_lt (Nat.div_le_self _ _) hx
      have hd16 : x / 16 ^ (j + 1) % 16 < 16 := Nat.mod_lt _ (by omega)
      rw [← hdd] at hd hd16
      have HD := Lib.hid hd
      have HDD := Lib.hid hdd
      have hlen : ((slotsL x).take j).length = j := by simp [hl]; omega
      clear hd hdd hn
      generalize x / 16 ^ j = y at HD HDD hlt hd16
      have q1 := u64_quo16 y hlt
      have q2 := tmod16 (y / 16)
      have hz := hb.size
      generalize y / 16 = y2 at HD HDD hd16 q1 q2
      generalize y2 % 16 = d at HD hd16 q2
      obtain ⟨A, cap, rfl, hcap⟩ := hO.nilv
      rw [hlen] at hcap hO ⊢
      have HO := Lib.hid hO
      clear hO
      go_wp2_with (at_builtin; refine wpList_appN rfl (.tmp 16) (.tmp 20) rfl w.heap.size _ ((slotsL x).take j) rfl (HO.out.alloc _) [d] ⟨wr.heap.size, 0, none⟩ 1 1 rfl rfl (news_one _ _) (by rw [hlen]; simp; omega) (by simp; omega) ?_)
      intro v2 w2 hO2 _ hb2
      go_wp2_with fail
      go_roundg (15 - (j + 1))
      case rel => exact ⟨j + 1, by omega, by go_num, by rw [HDD.out], rfl, by rw [HD.out]; exact hO2, (hb.alloc hz _).trans hb2⟩
      case measure => omega
    · obtain rfl : j = 15 := by omega
      rw [List.take_of_length_le (by omega)] at hO
      go_wp2
      go_ret2
      exact ⟨_, rfl, hO, hb⟩

end Go.Proofs.Ythplnecnagbedaa
