/- Split of a node by its contract; conditions: the node is one, and lies in memory. -/
import Derived.Test.YthplnecnagbedaaNdBack
namespace Go.Proofs.Ythplnecnagbedaa
open Go.RowKit Go.Shelf

attribute [local go_sem] Oper.semAt_some

theorem putM_ins (N : Nd) (k : ByteArray) (v : Int) : (putM N k v).1.ins ≤ N.ins + 1 := by
  unfold putM
  split
  · exact Nat.le_succ _
  · split
    · exact Nat.le_succ _
    · split
      · exact Nat.le_succ _
      · exact Nat.le_refl _
theorem takeM_ins (N : Nd) (k : ByteArray) : (takeM N k).1.ins ≤ N.ins + 1 := by
  unfold takeM
  split
  · exact Nat.le_refl _
  · exact Nat.le_succ _
theorem putAll_snoc (N R : Nd) (L : List ByteArray) (k : ByteArray) : putAll N R (L ++ [k]) = (putM (putAll N R L) k (getM N k).1).1 := by
  induction L generalizing R with
  | nil => rfl
  | cons x L ih => exact ih _
theorem putAll_ins (N R : Nd) (L : List ByteArray) : (putAll N R L).ins ≤ R.ins + L.length := by
  induction L generalizing R with
  | nil => exact Nat.le_refl _
  | cons x L ih =>
    have h1 := ih (putM R x (getM N x).1).1
    have h2 := putM_ins R x (getM N x).1
    simp only [List.length_cons]
    have : putAll N R (x :: L) = putAll N (putM R x (getM N x).1).1 L := rfl
    rw [this]
    omega
/-- Taken out from behind: the last k of L. -/
def backTo (N : Nd) (L : List ByteArray) (k : Nat) : Nd := takeAll N (L.drop (L.length - k))
theorem backTo_zero (N : Nd) (L : List ByteArray) : backTo N L 0 = N := by unfold backTo; rw [Nat.sub_zero, List.drop_length]; rfl
theorem backTo_all (N : Nd) (L : List ByteArray) : backTo N L L.length = takeAll N L := by unfold backTo; rw [Nat.sub_self, List.drop_zero]
theorem backTo_succ (N : Nd) (L : List ByteArray) {k : Nat} (h : k < L.length) : backTo N L (k + 1) = (takeM (backTo N L k) (L.getD (L.length - 1 - k) emp)).1 := by
  unfold backTo
  have h1 : L.length - (k + 1) < L.length := by omega
  rw [List.drop_eq_getElem_cons h1]
  have e1 : L.length - (k + 1) + 1 = L.length - k := by omega
  have e2 : L.length - 1 - k = L.length - (k + 1) := by omega
  rw [e1, e2]
  have e3 : L.getD (L.length - (k + 1)) emp = L[L.length - (k + 1)] := by simp [List.getD, h1]
  rw [e3]
  rfl
theorem takeAll_ins (N : Nd) (L : List ByteArray) : (takeAll N L).ins ≤ N.ins + L.length := by
  induction L with
  | nil => exact Nat.le_refl _
  | cons x L ih =>
    have h2 := takeM_ins (takeAll N L) x
    have : takeAll N (x :: L) = (takeM (takeAll N L) x).1 := rfl
    rw [this, List.length_cons]
    omega

def SplitPost (w : World) (g : Nat) (N : Nd) (e : Ending) (w' : World) : Prop :=
  (N.u < 2 ∧ e = .returned (.tuple #[.pointer none, .string ⟨#[]⟩, .int .i64 4]) ∧ Below w.heap.size w w') ∨
  (2 ≤ N.u ∧ ∃ r, w.heap.size ≤ r ∧ e = .returned (.tuple #[.pointer (some ⟨r, 0, none⟩), .string ((upperM N).getD 0 emp), .int .i64 0]) ∧ Blk w' g 95 (ndCells (splitL N)) ∧ Blk w' r 95 (ndCells (splitR N)) ∧ Chg [g] w w')

def takeSeq (N : Nd) (pre : List (Nat × ByteArray)) : Nd := pre.foldl (fun M x => (takeM M x.2).1) N
theorem takeSeq_snoc (N : Nd) (pre : List (Nat × ByteArray)) (x : Nat × ByteArray) : takeSeq N (pre ++ [x]) = (takeM (takeSeq N pre) x.2).1 := by simp [takeSeq]
theorem takeSeq_ok {N : Nd} (h : NdOk N) (pre : List (Nat × ByteArray)) : NdOk (takeSeq N pre) := by
  induction pre generalizing N with
  | nil => exact h
  | cons x L ih => exact ih (takeM_ok h _)
theorem takeSeq_ins (N : Nd) (pre : List (Nat × ByteArray)) : (takeSeq N pre).ins ≤ N.ins + pre.length := by
  induction pre generalizing N with
  | nil => exact Nat.le_refl _
  | cons x L ih =>
    have h1 := ih (takeM N x.2).1
    have h2 := takeM_ins N x.2
    have : takeSeq N (x :: L) = takeSeq (takeM N x.2).1 L := rfl
    rw [this, List.length_cons]
    omega
theorem takeSeq_upto (N : Nd) (L : List ByteArray) (k : Nat) (hk : k ≤ L.length) : takeSeq N (upto (backAt L) k) = backTo N L k := by
  induction k with
  | zero => rw [backTo_zero]; rfl
  | succ k ih => rw [upto_succ, takeSeq_snoc, ih (by omega), backTo_succ N L (by omega)]; rfl
theorem takeM_spl (N : Nd) (k : ByteArray) : (takeM N k).1.spl = N.spl := by unfold takeM; split <;> rfl
theorem takeAll_spl (N : Nd) (L : List ByteArray) : (takeAll N L).spl = N.spl := by
  induction L with
  | nil => rfl
  | cons x L ih => exact (takeM_spl _ _).trans ih
theorem keepsOthers_chg {W W' : World} {g : Nat} {t : TypeId} {cs : Array Value} (hb : Blk W g t cs) (hc : Chg [g] W W') : KeepsOthers W W' :=
  ⟨hc.size, fun k o hk ho => by
    by_cases e : k = g
    · subst e
      unfold Blk at hb
      rw [hb] at hk
      injection hk with hk
      subst hk
      cases ho
    · exact (hc.block k (Array.getElem?_eq_some_iff.1 hk).1 (by simpa using e)).trans hk⟩
/-- What holds between two rounds of taking out. -/
structure SpI (w : World) (g r b h t : Nat) (N : Nd) (U : List ByteArray) (B : Nat) (pre : List (Nat × ByteArray)) (W : World) : Prop where
  gblk : Blk W g 95 (ndCells (takeSeq N pre))
  box : Blk W w.heap.size 32 #[.pointer (some ⟨g, 0, none⟩)]
  rblk : Blk W r 95 (ndCells (splitR N))
  key : ∀ j, j < t → W.cell? ⟨b, h + j, none⟩ = some (.string (U.getD j emp))
  chg : Chg [g] w W
  size : B ≤ W.heap.size
theorem SpI.own {w : World} {g r b h t : Nat} {N : Nd} {U : List ByteArray} {B : Nat} (hg : g < B) (hw : w.heap.size < B) (hr : r < B) (hb : b < B) : OwnFrom B (SpI w g r b h t N U B) := fun s W W' row hs hgr hrow => by
  have hne : ∀ q, q < B → some q ≠ row := fun q hq e => by have := (hrow q e.symm).1; omega
  refine ⟨hs.gblk.grown hgr (hne g hg), hs.box.grown hgr (hne _ hw), hs.rblk.grown hgr (hne r hr), fun j hj => ?_, hs.chg.trans (Chg.of_grown (l := row.toList) hgr (fun q e => .inl (by simp [e]))) (fun q hq => .inr ?_), Nat.le_trans hs.size hgr.size⟩
  · exact (World.cell?_of_block (w := W) (a := ⟨b, h + j, none⟩) (hgr.block b (by have := hs.size; omega) (hne b hb))).trans (hs.key j hj)
  · have := (hrow q (by simpa using hq)).1; omega

set_option maxRecDepth 100000 in
set_option maxHeartbeats 4000000 in
theorem split_any (w : World) (g : Nat) (N : Nd) (hok : NdOk N) (hi : N.ins < 2305843009213693952) (hsp : N.spl < 2305843009213693952) (hN : Blk w g 95 (ndCells N)) :
    Calls Try.prog 31 #[.pointer (some ⟨g, 0, none⟩)] w (SplitPost w g N) := by
  have hK := fun W hN' => keys_any W g N hok hN'
  have hgl := hN.lt
  have hkl := keysM_len N
  have hu15 := hok.u15
  obtain ⟨u, hu⟩ : ∃ u, u = N.u := ⟨_, rfl⟩
  rw [← hu] at hu15 hkl
  have HU := Lib.hid hu
  have HKL := Lib.hid hkl
  have hN1 : Blk (w.alloc (.cells #[.pointer (some ⟨g, 0, none⟩)] 32)) g 95 (ndCells N) := hN.alloc _
  have hB1 : Below w.heap.size w (w.alloc (.cells #[.pointer (some ⟨g, 0, none⟩)] 32)) := (Below.refl _ w).alloc (Nat.le_refl _) _
  have hX1 : Blk (w.alloc (.cells #[.pointer (some ⟨g, 0, none⟩)] 32)) w.heap.size 32 #[.pointer (some ⟨g, 0, none⟩)] := Blk.new _ _ _
  have hk : Calls Try.prog 29 #[.pointer (some ⟨g, 0, none⟩)] (w.alloc (.cells #[.pointer (some ⟨g, 0, none⟩)] 32)) fun e w' => ∃ (a : Option Addr) (k : Nat), e = .returned (.slice a u k) ∧ w'.ownsRow (w.heap.size + 1) 9 1 (.slice a u k) u ((keysM N).map .string) ∧ Below (w.heap.size + 1) (w.alloc (.cells #[.pointer (some ⟨g, 0, none⟩)] 32)) w' :=
    (hK _ hN1).mono fun e w' ⟨a, k, h1, h2, h3⟩ => by
      unfold OwnS at h2
      rw [hkl] at h1 h2
      rw [World.size_alloc] at h2 h3
      exact ⟨a, k, h1, h2, h3⟩
  have hsz1 : (w.alloc (.cells #[.pointer (some ⟨g, 0, none⟩)] 32)).heap.size = w.heap.size + 1 := by simp
  have HN := Lib.hid hN
  have HN1 := Lib.hid hN1
  have HB1 := Lib.hid hB1
  have HX1 := Lib.hid hX1
  have HS1 := Lib.hid hsz1
  have HOK := Lib.hid hok
  clear hN hN1 hB1 hX1 hsz1 hok hu hkl hK
  refine (callsIn_wide (n := 6)).1 ?_
  refine callsIn_of_wp_marks Try.func31 rfl trivial ?_ rfl
  simp only [Try.ntmps31, List.size_toArray, List.length_cons, List.length_nil, Nat.reduceAdd, Nat.reduceSub, Array.replicate_succ, Array.replicate_zero, List.push_toArray, List.append_toArray, List.nil_append, List.cons_append]
  refine wpIn_wide.2 ?_
  by_cases h2 : u < 2
  · go_wp2_with (go_at_call 29; refine hk.mono ?_; rintro e w2 ⟨a, k, rfl, hO, b2⟩)
    refine ⟨.tuple #[.pointer none, .string ⟨#[]⟩, .int .i64 4], by simp [results, Try.results31, go_sem], ?_⟩
    exact .inl ⟨by rw [← HU.out]; exact h2, rfl, HB1.out.trans (b2.mono (by omega))⟩
  · have h2' : ¬ ((u : Int) < 2) := by omega
    obtain ⟨h, hh, hh1, hh2⟩ : ∃ h : Nat, ((u : Int) + 1) / 2 = (h : Int) ∧ 1 ≤ h ∧ h < u := ⟨(u + 1) / 2, by omega, by omega, by omega⟩
    have HH := Lib.hid hh
    go_upto_region 5 with (first | (go_at_call 24; refine (new_any _).mono ?_; rintro e w3 ⟨rfl, hR, b3, hlt3⟩) | (go_at_call 29; refine hk.mono ?_; rintro e w2 ⟨a, k, rfl, hO, b2⟩))
    obtain ⟨b, ea, hbB, hbl, hbc⟩ := own_at hO (by omega)
    subst ea
    obtain ⟨huk, hk63⟩ := own_cap hO
    go_wp2_with fail
    have hul : (upperM N).length = u - h := by unfold upperM; rw [List.length_drop, HKL.out, ← HU.out]; omega
    have hud : ∀ j, j < u - h → (upperM N).getD j emp = (keysM N).getD (h + j) emp := fun j hj => by
      unfold upperM
      rw [← HU.out, show (u + 1) / 2 = h by omega]
      simp [List.getD, List.getElem?_drop]
    have hr1 : w2.heap.size ≤ w3.heap.size - 1 := by omega
    generalize hrg : w3.heap.size - 1 = r at hR hr1 ⊢
    have hb23 := b2.size
    have hgsz : g < w.heap.size + 1 := by omega
    have hN3 := (HN1.out.below b2 hgsz).below b3 (by omega)
    have hX3 := (HX1.out.below b2 (by omega)).below b3 (by omega)
    have hw3 : Below w.heap.size w w3 := (HB1.out.trans (b2.mono (by omega))).trans (b3.mono (by omega))
    have hky : ∀ j, j < u - h → w3.cell? ⟨b, h + j, none⟩ = some (.string ((upperM N).getD j emp)) := fun j hj => by
      refine (b3.cell (p := ⟨b, h + j, none⟩) hbl).trans (hbc (h + j) _ ?_)
      rw [hud j hj]
      have : h + j < (keysM N).length := by rw [HKL.out]; omega
      simp [List.getD, this]
    have hbr : b ≠ r := by omega
    have hgr : g ≠ r := by omega
    have hxr : w.heap.size ≠ r := by omega
    have hb3 : b < w3.heap.size := by omega
    have HR := Lib.hid hR
    have HN3 := Lib.hid hN3
    have HX3 := Lib.hid hX3
    have HW3 := Lib.hid hw3
    have HKY := Lib.hid hky
    have HUL := Lib.hid hul
    have hr3 := hR.lt
    have hg3 := hN3.lt
    have hx3 := hX3.lt
    clear hR hN3 hX3 hw3 hky hul hud hbc b2 b3 hO hk hrg hh
    obtain ⟨m, hm⟩ : ∃ m, m = u - h := ⟨_, rfl⟩
    rw [← hm] at HKY HUL ⊢
    have HM := Lib.hid hm
    have hm15 : m ≤ 15 := by omega
    have hkm : m ≤ k := by omega
    clear hm
    have hokR := fun t => putAll_ok (N := N) nd0_ok ((upperM N).take t)
    have hinR := fun t => putAll_ins N nd0 ((upperM N).take t)
    go_loopg [27] m (fun gn i wr => ∃ t : Nat, t ≤ m ∧ i = .int .i64 t ∧ gn = m - t ∧ Blk wr r 95 (ndCells (putAll N nd0 ((upperM N).take t))) ∧ Chg [r] w3 wr)
    case atStart => exact ⟨0, Nat.zero_le _, rfl, rfl, by simpa [putAll] using HR.out, Chg.refl _ _⟩
    case round =>
      clear HR
      obtain ⟨t, ht, rfl, rfl, hRt, hc⟩ := hrel
      by_cases htm : t < m
      · have hx1 := ((HX3.out.chg hc (by simpa using hxr)).at 0 rfl)
        have ck := (hc.cell (p := ⟨b, h + t, none⟩) hb3 (by simpa using hbr)).trans (HKY.out t htm)
        have hNt := HN3.out.chg hc (by simpa using hgr)
        have htk : (upperM N).take (t + 1) = (upperM N).take t ++ [(upperM N).getD t emp] := by
          have hl : t < (upperM N).length := by rw [HUL.out]; exact htm
          rw [List.take_succ_eq_append_getElem hl]
          simp [List.getD, hl]
        have hput := putAll_snoc N nd0 ((upperM N).take t) ((upperM N).getD t emp)
        rw [← htk] at hput
        have hot := hokR t
        have hit := hinR t
        have hlt15 : ((upperM N).take t).length ≤ 15 := by rw [List.length_take]; omega
        have hibnd : (putAll N nd0 ((upperM N).take t)).ins < 4611686018427387904 := by
          have h0 : nd0.ins = 0 := rfl
          omega
        generalize (upperM N).getD t emp = key at ck hput
        generalize putAll N nd0 ((upperM N).take t) = Rt at hRt hput hot hibnd
        have HPUT := Lib.hid hput
        have hget := get_any wr g N HOK.out hNt key
        generalize (getM N key) = gm at hget HPUT
        obtain ⟨gv, gb⟩ := gm
        have hrt := hRt.lt
        clear hput htk hit hlt15 hokR hinR
        go_wp2_with (first
          | (go_at_call 26; refine (put_any _ r Rt hot hibnd (hRt.below b5 hrt) key gv).mono ?_; rintro e w6 ⟨rfl, hR6, c6⟩)
          | (go_at_call 27; refine hget.mono ?_; rintro e w5 ⟨rfl, b5⟩))
        go_roundg (m - (t + 1))
        case rel => exact ⟨t + 1, by omega, by go_num, rfl, by rw [HPUT.out]; exact hR6, (hc.trans (Chg.of_below b5 [r]) (by simp)).trans c6 (by simp)⟩
        case measure => omega
      · obtain rfl : t = m := by omega
        rw [List.take_of_length_le (by rw [HUL.out]; exact Nat.le_refl _)] at hRt
        have hRR : Blk wr r 95 (ndCells (splitR N)) := hRt
        have hx1 := ((HX3.out.chg hc (by simpa using hxr)).at 0 rfl)
        have HRR := Lib.hid hRR
        have HC := Lib.hid hc
        clear hRt hRR hc hokR hinR
        go_wp2_with (go_at_call 59; refine (back_any _ _ _ _).mono ?_; rintro e w5 ⟨rfl, rfl⟩)
        have hcW : Chg [r] w3 (wr.alloc (.cells #[.slice (some ⟨b, h, none⟩) t (k - h)] 44)) := HC.out.alloc _
        have hbx : Blk (wr.alloc (.cells #[.slice (some ⟨b, h, none⟩) t (k - h)] 44)) wr.heap.size 44 #[.slice (some ⟨b, h, none⟩) t (k - h)] := Blk.new _ _ _
        have hRw := HRR.out.alloc (.cells #[.slice (some ⟨b, h, none⟩) t (k - h)] 44)
        have hszW : (wr.alloc (.cells #[.slice (some ⟨b, h, none⟩) t (k - h)] 44)).heap.size = wr.heap.size + 1 := by simp
        have hrw := HC.out.size
        have hI0 : SpI w g r b h t N (upperM N) (wr.heap.size + 1) [] (wr.alloc (.cells #[.slice (some ⟨b, h, none⟩) t (k - h)] 44)) :=
          ⟨HN3.out.chg hcW (by simpa using hgr), HX3.out.chg hcW (by simpa using hxr), hRw, fun j hj => (hcW.cell (p := ⟨b, h + j, none⟩) hb3 (by simpa using hbr)).trans (HKY.out j hj),
            (Chg.of_below HW3.out [g]).trans hcW (fun q hq => .inr (by simp at hq; omega)), by rw [hszW]; exact Nat.le_refl _⟩
        have HI0 := Lib.hid hI0
        have HBX := Lib.hid hbx
        have hul2 := HUL.out
        have hseq : SeqStopsK Fence.wide 5 Try.prog 76 #[.pointer (some ⟨wr.heap.size, 0, none⟩)] (fun x : Nat × ByteArray => #[Value.int .i64 (x.1 : Int), Value.string x.2]) (BChg (wr.heap.size + 1) [g])
            (fun ys => ys = upto (backAt (upperM N)) (upperM N).length) (fun pre => ∃ q, q ≤ (upperM N).length ∧ pre = upto (backAt (upperM N)) q) (upperM N).length (wr.alloc (.cells #[.slice (some ⟨b, h, none⟩) t (k - h)] 44)) := fun l J Jx W hW _ _ hY h0 => by
          have hbW := HBX.out.below hW (by rw [hszW]; omega)
          exact back1_in Fence.wide 5 trivial rfl (by omega) l wr.heap.size (wr.heap.size + 1) b h (k - h) g (upperM N) (by omega) (by omega) (by omega) (by omega) (by omega) J Jx hY W
            (by rw [hul2]; exact hbW.at 0 rfl) (fun j hj => (hW.cell (p := ⟨b, h + j, none⟩) (by rw [hszW]; show b < _; omega)).trans (HI0.out.key j (by omega))) h0
        have hgB : g < wr.heap.size + 1 := by omega
        have hxB : w.heap.size < wr.heap.size + 1 := by omega
        have hrB : r < wr.heap.size + 1 := by omega
        have hbB2 : b < wr.heap.size + 1 := by omega
        refine (wpIn_wide (n := 6)).1 ?_
        refine wpIn_rangeFunc_ownF rfl (by omega) (gf := 76) (lb := #[.pointer (some ⟨wr.heap.size, 0, none⟩)]) rfl trivial (enters_of Try.func76 (by kernel_rfl) rfl) hseq
          (fun h1 h2 => h1.trans h2) (fun W l o o' hl ho _ _ => BChg.of_below ((Below.refl _ W).grown (grownBy_putObj' W l o') (by have := (Array.getElem?_eq_some_iff.1 ho).1; rw [hszW] at hl; omega) (fun q e => by cases e; rw [hszW] at hl; exact hl)) [g]) (Below.refl _ _) (fun _ => rfl)
          (SpI w g r b h t N (upperM N) (wr.heap.size + 1)) (fun _ _ _ => False) (by rw [hszW]; exact SpI.own hgB hxB hrB hbB2) (fun _ _ _ _ _ hs _ _ => hs) HI0.out
          (fun x => { tmps := #[Value.pointer (some (⟨g, 0, none⟩ : Addr)), Value.pointer (some (⟨w.heap.size, 0, none⟩ : Addr)), Value.pointer (some (⟨r, 0, none⟩ : Addr)), Value.string ⟨#[]⟩, Value.int IntKind.i64 0, Value.slice (some (⟨b, 0, none⟩ : Addr)) u k, Value.slice (some (⟨b, h, none⟩ : Addr)) t (k - h), undef, u8, u9, u10, undef, Value.string x.2, Value.pointer (some (⟨g, 0, none⟩ : Addr)), Value.slice (some (⟨b, 0, none⟩ : Addr)) u k, Value.slice (some (⟨b, 0, none⟩ : Addr)) u k, Value.int IntKind.i64 (u : Int), Value.bool (decide ((u : Int) < 2)), Value.pointer (some (⟨r, 0, none⟩ : Addr)), Value.slice (some (⟨b, 0, none⟩ : Addr)) u k, Value.slice (some (⟨b, 0, none⟩ : Addr)) u k, Value.int IntKind.i64 (u : Int), Value.int IntKind.i64 ((u : Int) + 1), Value.int IntKind.i64 (((u : Int) + 1) / 2), Value.slice (some (⟨b, h, none⟩ : Addr)) t (k - h), Value.slice (some (⟨b, h, none⟩ : Addr)) t (k - h), Value.int IntKind.i64 (t : Int), Value.int IntKind.i64 (t : Int), Value.bool false, u29, u30, u31, u32, u33, u34, u35, u36, u37, u38, u39, u40, u41, Value.slice (some (⟨b, h, none⟩ : Addr)) t (k - h), Value.func (Fn.func 76) #[] #[Value.pointer (some (⟨wr.heap.size, 0, none⟩ : Addr))], Value.int .i64 (x.1 : Int), Value.string x.2, undef, undef, undef, undef, undef, undef, undef, undef, undef, undef, undef, undef, undef, undef], defers := [] }) ?assign ?body ?done ?stop
        case assign =>
          intro l x W K hK
          gi_wp2
          exact hK
        case body =>
          rintro l pre x W hI hlen
          have hxc := hI.box.at 0 rfl
          have hot := takeSeq_ok HOK.out pre
          have hin := takeSeq_ins N pre
          have hin2 : (takeSeq N pre).ins < 4611686018427387904 := by omega
          have hsn := takeSeq_snoc N pre x
          have hgb := hI.gblk
          have HI := Lib.hid hI
          have HSN := Lib.hid hsn
          have hgl2 := hgb.lt
          clear hI hsn hin hlen
          generalize takeSeq N pre = M at hot hgb hin2 HSN
          gi_wp2_with (refine ⟨trivial, ?_⟩; gi_at_call 28; refine (CallsIn.inRound l (callsIn_wide.2 (take_any W g M hot hin2 hgb x.2))).mono ?_; rintro e w6 ⟨rfl, hT, hcT⟩)
          have hw6 := hcT.size
          refine ⟨keepsOthers_chg hgb hcT, (BChg.refl _ _ W).chg hcT (by have := HI.out.size; omega) (by simp), ⟨by rw [HSN.out]; exact hT, HI.out.box.chg hcT (by simp; omega), HI.out.rblk.chg hcT (by simp; omega), fun j hj => (hcT.cell (p := ⟨b, h + j, none⟩) (by have := HI.out.size; show b < W.heap.size; omega) (by simp; omega)).trans (HI.out.key j hj), HI.out.chg.trans hcT (by simp), by have := HI.out.size; omega⟩⟩
        case done =>
          rintro D ys W hD rfl hI hK
          have hxc := hI.box.at 0 rfl
          have hk0 := hI.key 0 (by have := HM.out; omega)
          have hgb := hI.gblk
          rw [takeSeq_upto N (upperM N) _ (Nat.le_refl _), backTo_all] at hgb
          have hot := takeAll_ok HOK.out (upperM N)
          have hspl := takeAll_spl N (upperM N)
          have hgb2 := hgb.at 32 (nd_at32 hot.kl hot.vl)
          rw [hspl] at hgb2
          have hset : (ndCells (takeAll N (upperM N))).setIfInBounds 32 (.int .i64 (N.spl + 1 : Nat)) = ndCells (splitL N) := nd_set32 hot.kl hot.vl _
          have hfr := hgb.free 32
          have HGB := Lib.hid hgb
          have HSET := Lib.hid hset
          have HI := Lib.hid hI
          have ht1 : (0 : Int) < (t : Int) := by have := HM.out; omega
          rw [Nat.add_zero] at hk0
          have hsw := hI.size
          clear hgb hset hI hspl hot
          generalize hup : (upperM N).getD 0 emp = up0 at hk0
          have HUP := Lib.hid hup
          clear hup
          have hbg : b ≠ g := by omega
          have hWc : Chg [g] W (W.setCell ⟨g, 32, none⟩ (.int .i64 ((N.spl : Int) + 1))) := (Chg.refl _ W).setCell (.inl (by simp)) _
          have hk1 : (W.setCell ⟨g, 32, none⟩ (.int .i64 ((N.spl : Int) + 1))).cell? ⟨b, h, none⟩ = some (.string up0) := (hWc.cell (p := ⟨b, h, none⟩) (by show b < W.heap.size; omega) (by simpa using hbg)).trans hk0
          have hK2 : (W.setCell ⟨g, 32, none⟩ (.int .i64 ((N.spl : Int) + 1))).heap[D]? = some (.deferred (some [])) := (KeepsOthers.setCell _ _ _).same D _ hK rfl
          go_upto_region 16 with fail
          go_quiet (fail)
          go_wp2_with fail
          refine ⟨by simp, .inl ⟨_, _, rfl, run_takeDeferred (by exact hK2), ?_⟩⟩
          have hD2 : wr.heap.size + 1 ≤ D := by rw [hszW] at hD; exact hD
          have hgF : Blk (((W.setCell ⟨g, 32, none⟩ (.int .i64 ((N.spl : Int) + 1))).drewN nq).putObj D (.deferred none)) g 95 (ndCells (splitL N)) := by
            refine Blk.grown (Blk.drewN ?_ _) (grownBy_putObj' _ D _) (fun e => by injection e with e; omega)
            rw [← HSET.out]
            exact HGB.out.set 32 _
          have hrF : Blk (((W.setCell ⟨g, 32, none⟩ (.int .i64 ((N.spl : Int) + 1))).drewN nq).putObj D (.deferred none)) r 95 (ndCells (splitR N)) :=
            Blk.grown (Blk.drewN (HI.out.rblk.chg hWc (by simpa using (Ne.symm hgr))) _) (grownBy_putObj' _ D _) (fun e => by injection e with e; omega)
          have hcF : Chg [g] w (((W.setCell ⟨g, 32, none⟩ (.int .i64 ((N.spl : Int) + 1))).drewN nq).putObj D (.deferred none)) :=
            ((HI.out.chg.trans hWc (by simp)).drewN nq).trans (Chg.of_grown (l := [D]) (grownBy_putObj' _ D _) (fun q e => by injection e with e; exact .inl (by simp [e]))) (fun q hq => .inr (by simp at hq; omega))
          exact ⟨_, results_tmp3 rfl _ _ _, .inr ⟨by rw [← HU.out]; omega, r, by rw [HS1.out] at hb23; omega, by rw [HUP.out]; rfl, hgF, hrF, hcF⟩⟩
        case stop =>
          rintro D c pre W _ _ h _
          exact h.elim

end Go.Proofs.Ythplnecnagbedaa
