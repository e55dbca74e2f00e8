/- The walk of the law WordsApart: tasks that use no cell in common do as if each was alone; conditions: as what came in reads. -/
import Derived.Test.YtlcgighhiacnpaaWdOver
import Derived.Test.YtlcgighhiacnpaaWdEight
import Derived.BigQuiet
import Derived.IntWalk
import Derived.Deep.QuietTactic
namespace Go.Proofs.Ytlcgighhiacnpaa
open Go.RowKit

theorem rdT_one {w : World} {b : Nat} {aa : Option Addr} {ac : Nat} {A : List Ins} (h : Blk w b 43 #[.slice aa A.length ac]) (h1 : A.length ≤ ac) (h2 : ac ≤ 9223372036854775807) (hr : RdI w w.heap.size aa A) : RdT w w.heap.size (some ⟨b, 0, none⟩) [A] := fun t ht => by
  have : t = 0 := by simp at ht; omega
  subst this
  exact ⟨b, 0, aa, ac, rfl, h.lt, h.at 0 rfl, h1, h2, hr⟩
theorem rdT_two {w : World} {b : Nat} {aa ba : Option Addr} {ac bc : Nat} {A B : List Ins} (h : Blk w b 43 #[.slice aa A.length ac, .slice ba B.length bc]) (h1 : A.length ≤ ac) (h2 : ac ≤ 9223372036854775807) (h3 : B.length ≤ bc) (h4 : bc ≤ 9223372036854775807)
    (hra : RdI w w.heap.size aa A) (hrb : RdI w w.heap.size ba B) : RdT w w.heap.size (some ⟨b, 0, none⟩) [A, B] := fun t ht => by
  have : t = 0 ∨ t = 1 := by simp at ht; omega
  rcases this with rfl | rfl
  · exact ⟨b, 0, aa, ac, rfl, h.lt, h.at 0 rfl, h1, h2, hra⟩
  · exact ⟨b, 0, ba, bc, rfl, h.lt, h.at 1 rfl, h3, h4, hrb⟩
theorem rdU_two {w : World} {b : Nat} {x y : Nat} (h : Blk w b 38 #[.int .u64 x, .int .u64 y]) (hx : x < 18446744073709551616) (hy : y < 18446744073709551616) : RdU w w.heap.size (some ⟨b, 0, none⟩) [x, y] := fun t ht => by
  have : t = 0 ∨ t = 1 := by simp at ht; omega
  rcases this with rfl | rfl
  · exact ⟨b, 0, rfl, h.lt, h.at 0 rfl, hx⟩
  · exact ⟨b, 0, rfl, h.lt, h.at 1 rfl, hy⟩

/-- Three rows of numbers that lie apart. -/
structure Pk3 (B : Nat) (w : World) (x y z : Value) (nx ny nz : Nat) (X Y Z : List Int) : Prop where
  ox : w.ownsRow B 3 1 x nx (X.map (.int .i64))
  oy : w.ownsRow B 3 1 y ny (Y.map (.int .i64))
  oz : w.ownsRow B 3 1 z nz (Z.map (.int .i64))
  xy : ∀ g, x.ownBlock = some g → y.ownBlock ≠ some g
  xz : ∀ g, x.ownBlock = some g → z.ownBlock ≠ some g
  yz : ∀ g, y.ownBlock = some g → z.ownBlock ≠ some g
section
variable {B : Nat} {w w' : World} {x y z x' : Value} {nx ny nz n' : Nat} {X Y Z X' : List Int}
theorem Pk3.swapY (h : Pk3 B w x y z nx ny nz X Y Z) : Pk3 B w y x z ny nx nz Y X Z := ⟨h.oy, h.ox, h.oz, fun g a b => h.xy g b a, h.yz, h.xz⟩
theorem Pk3.swapZ (h : Pk3 B w x y z nx ny nz X Y Z) : Pk3 B w z y x nz ny nx Z Y X := ⟨h.oz, h.oy, h.ox, fun g a b => h.yz g b a, fun g a b => h.xz g b a, fun g a b => h.xy g b a⟩
theorem Pk3.alloc (h : Pk3 B w x y z nx ny nz X Y Z) (o : Obj) : Pk3 B (w.alloc o) x y z nx ny nz X Y Z := ⟨h.ox.alloc o, h.oy.alloc o, h.oz.alloc o, h.xy, h.xz, h.yz⟩
theorem Pk3.push (h : Pk3 B w x y z nx ny nz X Y Z) (o : w'.ownsRow B 3 1 x' n' (X'.map (.int .i64))) (hg : w.grownBy w' x.ownBlock) (hb : x'.ownBlock = x.ownBlock ∨ x'.ownBlock = some w.heap.size) : Pk3 B w' x' y z n' ny nz X' Y Z := by
  have hc : Chg x.ownBlock.toList w w' := Chg.of_grown hg (fun g e => .inl (by simp [e]))
  refine ⟨o, own_chg h.oy hc (fun g hy hm => h.xy g (by simpa using hm) hy), own_chg h.oz hc (fun g hz hm => h.xz g (by simpa using hm) hz), fun g hx hy => ?_, fun g hx hz => ?_, h.yz⟩
  · rcases hb with hb | hb
    · exact h.xy g (hb ▸ hx) hy
    · rw [hb] at hx; injection hx with hx; have := (h.oy.lt g hy).2; omega
  · rcases hb with hb | hb
    · exact h.xz g (hb ▸ hx) hz
    · rw [hb] at hx; injection hx with hx; have := (h.oz.lt g hz).2; omega
theorem Pk3.below (h : Pk3 B w x y z nx ny nz X Y Z) : (∀ g, x.ownBlock = some g → B ≤ g) := below_own h.ox
end
theorem pk3_nil (B : Nat) (w : World) : Pk3 B w (.slice none 0 0) (.slice none 0 0) (.slice none 0 0) 0 0 0 [] [] [] := ⟨World.ownsRow_nil _ _ _ _, World.ownsRow_nil _ _ _ _, World.ownsRow_nil _ _ _ _, by simp [Value.ownBlock], by simp [Value.ownBlock], by simp [Value.ownBlock]⟩
theorem own_at {w : World} {B : Nat} {e : TypeId} {z n : Nat} {ao : Option Addr} {k : Nat} {xs : List Value} (h : w.ownsRow B e z (.slice ao n k) n xs) (hn : 0 < n) : ∃ g, ao = some ⟨g, 0, none⟩ ∧ B ≤ g ∧ g < w.heap.size ∧ ∀ j x, xs[j]? = some x → w.cell? ⟨g, j, none⟩ = some x := by
  obtain ⟨g, cap, e1, _, hB, hg, hc, _⟩ := own_cells h hn
  injection e1 with e1 _ _
  exact ⟨g, e1, hB, hg, hc⟩
theorem run_lit (X : World) (hs : Array Value) (m : Nat) (T : List (List Ins)) (hT : T.length = m) (hm : m ≤ 4096) (pa : Option Addr) (pn kp : Nat) (P : List Int) (hP : P.length = pn) (hpn : pn ≤ 300) {R : Rep} {c : Int} (hx : runM T [3, 4] P = (R, c))
    (ht : ∀ W, Below X.heap.size X W → Blk W X.heap.size 43 hs → RdT W W.heap.size (some ⟨X.heap.size, 0, none⟩) T) (hp : RdN X X.heap.size pa P) :
    Calls Try.prog 13 #[.slice (some ⟨X.heap.size, 0, none⟩) m m, .slice (some ⟨X.heap.size + 1, 0, none⟩) 2 2, .slice pa pn kp] ((X.alloc (.cells hs 43)).alloc (.cells #[.int .u64 3, .int .u64 4] 38))
      fun e w' => ∃ (ac : Option Addr) (kc : Nat) (ar : Option Addr) (kr : Nat) (ad : Option Addr) (kd : Nat), e = .returned (.tuple #[.agg #[.slice ac R.cells.length kc, .slice ar R.regs.length kr, .slice ad R.done.length kd, .int .i64 R.steps], .int .i64 c]) ∧
        RepAt X.heap.size w' (.slice ac R.cells.length kc) (.slice ar R.regs.length kr) (.slice ad R.done.length kd) R ∧ Below X.heap.size X w' := by
  have b0 : Below X.heap.size X ((X.alloc (.cells hs 43)).alloc (.cells #[.int .u64 3, .int .u64 4] 38)) := ((Below.refl _ X).alloc (Nat.le_refl _) _).alloc (by simp) _
  have k0 : Blk ((X.alloc (.cells hs 43)).alloc (.cells #[.int .u64 3, .int .u64 4] 38)) X.heap.size 43 hs := (Blk.new _ _ _).alloc _
  have k1 : Blk ((X.alloc (.cells hs 43)).alloc (.cells #[.int .u64 3, .int .u64 4] 38)) (X.heap.size + 1) 38 #[.int .u64 3, .int .u64 4] := Blk.new' _ _ _ (by simp)
  generalize (X.alloc (.cells hs 43)).alloc (.cells #[.int .u64 3, .int .u64 4] 38) = W at b0 k0 k1 ⊢
  refine (run_open W _ _ pa m m 2 2 pn kp T [3, 4] P hT rfl hP ⟨by omega, by omega, by omega⟩ (ht W b0 k0) (rdU_two (x := 3) (y := 4) k1 (by omega) (by omega)) ((hp.below b0).mono b0.size) hx).mono fun e w' h => ?_
  obtain ⟨ac, kc, ar, kr, ad, kd, h1, h2, h3⟩ := h
  exact ⟨ac, kc, ar, kr, ad, kd, h1, h2.mono b0.size, b0.trans (h3.mono b0.size)⟩
def pick2 (x : Int) : Int := ((u64 x % 2 : Nat) : Int)
theorem firsts_snoc (p : List Int) (x : Int) : firsts (p ++ [x]) = if x = 0 then firsts p ++ [0] else firsts p := by
  unfold firsts
  rw [List.filter_append, List.map_append]
  by_cases h : x = 0
  · rw [if_pos h]; subst h; rfl
  · rw [if_neg h]
    have : (x == 0) = false := by simpa using h
    simp [this]
theorem seconds_snoc (p : List Int) (x : Int) : seconds (p ++ [x]) = if x = 0 then seconds p else seconds p ++ [0] := by
  unfold seconds
  rw [List.filter_append, List.map_append]
  by_cases h : x = 0
  · rw [if_pos h]; subst h; simp
  · rw [if_neg h]
    have : (x == 0) = false := by simpa using h
    simp [this]

set_option maxRecDepth 100000 in
set_option maxHeartbeats 4000000 in
theorem wordsApart_any (w : World) (aa : Option Addr) (an ac : Nat) (A : List Ins) (hA : A.length = an) (hac : an ≤ ac) (hac2 : ac ≤ 9223372036854775807) (hra : RdI w w.heap.size aa A)
    (ba : Option Addr) (bn bc : Nat) (B : List Ins) (hB : B.length = bn) (hbc : bn ≤ bc) (hbc2 : bc ≤ 9223372036854775807) (hrb : RdI w w.heap.size ba B)
    (pa : Option Addr) (pn pc : Nat) (P : List Int) (hP : P.length = pn) (hlp : pn ≤ 9223372036854775807) (hrp : RdN w w.heap.size pa P) :
    Calls Try.prog 6 #[.slice aa an ac, .slice ba bn bc, .slice pa pn pc] w fun e w' => e = .returned (.bool true) ∧ Below w.heap.size w w' := by
  subst hA hB
  obtain ⟨i0, hi, hz0, hz1, hz2⟩ := info_parts Try.info3
  have HI := Lib.hid hi
  clear hi
  have hw := works_any
  have hck : ∀ W, Below w.heap.size w W → Calls Try.prog 11 #[.slice (some ⟨W.heap.size, 0, none⟩) 2 2, .int .i64 2] (W.alloc (.cells #[.slice aa A.length ac, .slice ba B.length bc] 43)) fun e w' => e = .returned (tup3 (chk [A, B] 2)) ∧ Below w.heap.size w w' := fun W hb => by
    have h1 := hb.alloc hb.size (.cells #[.slice aa A.length ac, .slice ba B.length bc] 43)
    exact (check_any (W.alloc (.cells #[.slice aa A.length ac, .slice ba B.length bc] 43)) (some ⟨W.heap.size, 0, none⟩) 2 2 [A, B] rfl (by omega) (rdT_two (Blk.new _ _ _) hac hac2 hbc hbc2 ((hra.below h1).mono h1.size) ((hrb.below h1).mono h1.size)) 2).mono fun e w' ⟨h2, h3⟩ => ⟨h2, h1.trans (h3.mono h1.size)⟩
  unfold tup3 at hck
  by_cases hok : (chk [A, B] 2).2.2 = 0
  case neg =>
    generalize chk [A, B] 2 = r at hck hok
    obtain ⟨r1, r2, r3⟩ := r
    dsimp only at hck hok
    have hok2 : (r3 != 0) = true := by simpa using hok
    clear hok hra hrb hrp
    go_enter Try.func6, Try.ntmps6
    go_wp2_with (first
      | (go_at_call 11; refine (hck _ b2).mono ?_; rintro e w3 ⟨rfl, b3⟩)
      | (go_at_call 18; refine (hw _).mono ?_; rintro e w2 ⟨rfl, b2⟩))
    go_ret
    exact ⟨rfl, b3⟩
  case pos =>
    have hlA : A.length ≤ 4096 := ((chk_ok hok).2.2.2 A (by simp)).1
    have hlB : B.length ≤ 4096 := ((chk_ok hok).2.2.2 B (by simp)).1
    have HOK := Lib.hid hok
    generalize hr : chk [A, B] 2 = r at hck hok
    obtain ⟨r1, r2, r3⟩ := r
    dsimp only at hck hok
    subst hok
    clear hr
    have hoA := fun W (hb : Below w.heap.size w W) => over_any W aa ac A hlA ((hra.below hb).mono hb.size) 0
    have hoB := fun W (hb : Below w.heap.size w W) => over_any W ba bc B hlB ((hrb.below hb).mono hb.size) 1
    have HRP := Lib.hid hrp
    have HP := Lib.hid hP
    clear hra hrb hrp hP
    go_enter Try.func6, Try.ntmps6
    go_upto_region 7 with (first
      | (go_at_call_of 20 ba; refine (hoB _ (b3.trans (b4.mono b3.size))).mono ?_; rintro e w5 ⟨a5, k5, rfl, ho5, b5⟩)
      | (go_at_call_of 20 aa; refine (hoA _ b3).mono ?_; rintro e w4 ⟨a4, k4, rfl, ho4, b4⟩)
      | (go_at_call 11; refine (hck _ b2).mono ?_; rintro e w3 ⟨rfl, b3⟩)
      | (go_at_call 18; refine (hw _).mono ?_; rintro e w2 ⟨rfl, b2⟩))
    have hb5 : Below w.heap.size w w5 := (b3.trans (b4.mono b3.size)).trans (b5.mono (b3.trans (b4.mono b3.size)).size)
    have hriA : RdI w5 w5.heap.size a4 (ov 0 A) := ((own_rdI ho4).below b5).mono b5.size
    have hriB : RdI w5 w5.heap.size a5 (ov 1 B) := own_rdI ho5
    obtain ⟨kA1, kA2⟩ := own_cap ho4
    obtain ⟨kB1, kB2⟩ := own_cap ho5
    have HB5 := Lib.hid hb5
    have HA := Lib.hid hriA
    have HBB := Lib.hid hriB
    clear hb5 hriA hriB ho4 ho5 b2 b3 b4 b5 hoA hoB hck hw
    go_wp2_with fail
    go_loopg [12, 13, 14, 15] pn (fun gn v1 v2 v3 i wr => ∃ (t nf ns : Nat) (pA fA sA : Option Addr) (kp kf ks : Nat), t ≤ pn ∧ t ≤ 300 ∧ i = .int .i64 t ∧ gn = pn - t ∧ v1 = .slice pA t kp ∧ v2 = .slice fA nf kf ∧ v3 = .slice sA ns ks ∧
      nf = (firsts ((P.take t).map pick2)).length ∧ ns = (seconds ((P.take t).map pick2)).length ∧
      Pk3 w5.heap.size wr (.slice pA t kp) (.slice fA nf kf) (.slice sA ns ks) t nf ns ((P.take t).map pick2) (firsts ((P.take t).map pick2)) (seconds ((P.take t).map pick2)) ∧ Below w5.heap.size w5 wr)
    case atStart => exact ⟨0, 0, 0, none, none, none, 0, 0, 0, Nat.zero_le _, Nat.zero_le _, rfl, rfl, rfl, rfl, rfl, rfl, rfl, pk3_nil _ _, Below.refl _ _⟩
    case round =>
      obtain ⟨t, nf, ns, pA, fA, sA, kp, kf, ks, htp, ht3, rfl, rfl, rfl, rfl, rfl, hnf, hns, h3, hb⟩ := hrel
      have hQl : ((P.take t).map pick2).length = t := by rw [List.length_map, List.length_take, HP.out]; omega
      have hnf3 : nf ≤ 300 := by have := firsts_len ((P.take t).map pick2); omega
      have hns3 : ns ≤ 300 := by have := seconds_len ((P.take t).map pick2); omega
      have hbz := hb.size
      have HQL := Lib.hid hQl
      have HNF := Lib.hid hnf
      have HNS := Lib.hid hns
      have H3 := Lib.hid h3
      have HB := Lib.hid hb
      clear hQl hnf hns h3 hb
      by_cases hgo : t < pn ∧ t < 300
      · obtain ⟨h1, h2⟩ := hgo
        obtain ⟨bp, op, e1, hbp, hcp0⟩ := HRP.out t (by rw [HP.out]; exact h1)
        subst e1
        have hcp := (HB.out.cell (p := ⟨bp, _, none⟩) (Nat.lt_of_lt_of_le hbp HB5.out.size)).trans ((HB5.out.cell (p := ⟨bp, _, none⟩) hbp).trans hcp0)
        clear hcp0
        have htk : (P.take (t + 1)).map pick2 = (P.take t).map pick2 ++ [pick2 (P.getD t 0)] := by
          rw [List.take_succ_eq_append_getElem (by rw [HP.out]; exact h1), List.map_append]
          simp [List.getD, HP.out, h1]
        have hrp0 : pick2 (P.getD t 0) = (Go.Proofs.Ytlcgighhiacnpaa.u64 (P.getD t 0) : Int) % 2 := rfl
        generalize P.getD t 0 = x at hcp htk hrp0
        have uw := u64_wrap x
        have ul := u64_lt x
        generalize Go.Proofs.Ytlcgighhiacnpaa.u64 x = ux at uw ul hrp0
        by_cases h0 : (ux : Int) % 2 = 0
        · rw [h0] at hrp0
          rw [hrp0] at htk
          have hf := firsts_snoc ((P.take t).map pick2) 0
          have hs := seconds_snoc ((P.take t).map pick2) 0
          rw [if_pos rfl, ← htk] at hf hs
          have HTK := Lib.hid htk
          have HF := Lib.hid hf
          have HS := Lib.hid hs
          clear htk hf hs hrp0
          go_wp2_with (first
            | (at_builtin; refine wpList_append_ap rfl (.tmp 62) (.tmp 63) 24 rfl w5.heap.size 3 i0 (.int .i64 0) 1 8 Try.underlying24 HI.out hz0 hz1 hz2 rfl (by decide) _ nf _ rfl (HK1.out.alloc _).oy (some ⟨w7.heap.size, 0, none⟩) 1 1 [.int .i64 0] rfl rfl (news_blk (Blk.new _ 3 _)) (by intro u hu; simp at hu; subst hu; rfl) (nf + 1) rfl ((firsts ((P.take (t + 1)).map pick2)).map (.int .i64)) (by rw [HF.out]; simp) (by unfold maxLen; omega) (by omega) (Nat.le_trans hw7 (by simp)) ?_; intro a8 k8 w8 hown8 hgr8 hbl8)
            | (at_builtin; refine wpList_append_ap rfl (.tmp 56) (.tmp 58) 24 rfl w5.heap.size 3 i0 (.int .i64 0) 1 8 Try.underlying24 HI.out hz0 hz1 hz2 rfl (by decide) _ t _ rfl (H3.out.alloc _).ox (some ⟨wr.heap.size, 0, none⟩) 1 1 [.int .i64 0] rfl rfl (news_blk (Blk.new _ 3 _)) (by intro u hu; simp at hu; subst hu; rfl) (t + 1) rfl (((P.take (t + 1)).map pick2).map (.int .i64)) (by rw [HTK.out]; simp) (by unfold maxLen; omega) (by omega) (Nat.le_trans hbz (by simp)) ?_; intro a7 k7 w7 hown7 hgr7 hbl7; have HK1 := Lib.hid ((H3.out.alloc _).push hown7 hgr7 hbl7); have HB7 := Lib.hid (below_grown (HB.out.alloc hbz _) hgr7 (Nat.le_trans hbz (by simp)) H3.out.below); have hw7 := HB7.out.size))
          go_roundg (pn - (t + 1))
          case rel => exact ⟨t + 1, nf + 1, ns, a7, a8, sA, k7, k8, ks, by omega, by omega, by go_num, rfl, rfl, rfl, rfl, by rw [HF.out, HNF.out]; simp, by rw [HS.out]; exact HNS.out, by rw [HS.out]; exact ((HK1.out.alloc _).swapY.push hown8 hgr8 hbl8).swapY, below_grown (HB7.out.alloc hw7 _) hgr8 (Nat.le_trans hw7 (by simp)) HK1.out.swapY.below⟩
          case measure => omega
        · have h1' : (ux : Int) % 2 = 1 := by omega
          rw [h1'] at hrp0
          rw [hrp0] at htk
          have hf := firsts_snoc ((P.take t).map pick2) 1
          have hs := seconds_snoc ((P.take t).map pick2) 1
          rw [if_neg (by omega), ← htk] at hf hs
          have HTK := Lib.hid htk
          have HF := Lib.hid hf
          have HS := Lib.hid hs
          clear htk hf hs hrp0 h0
          go_wp2_with (first
            | (at_builtin; refine wpList_append_ap rfl (.tmp 65) (.tmp 66) 24 rfl w5.heap.size 3 i0 (.int .i64 0) 1 8 Try.underlying24 HI.out hz0 hz1 hz2 rfl (by decide) _ ns _ rfl (HK1.out.alloc _).oz (some ⟨w7.heap.size, 0, none⟩) 1 1 [.int .i64 0] rfl rfl (news_blk (Blk.new _ 3 _)) (by intro u hu; simp at hu; subst hu; rfl) (ns + 1) rfl ((seconds ((P.take (t + 1)).map pick2)).map (.int .i64)) (by rw [HS.out]; simp) (by unfold maxLen; omega) (by omega) (Nat.le_trans hw7 (by simp)) ?_; intro a8 k8 w8 hown8 hgr8 hbl8)
            | (at_builtin; refine wpList_append_ap rfl (.tmp 56) (.tmp 58) 24 rfl w5.heap.size 3 i0 (.int .i64 0) 1 8 Try.underlying24 HI.out hz0 hz1 hz2 rfl (by decide) _ t _ rfl (H3.out.alloc _).ox (some ⟨wr.heap.size, 0, none⟩) 1 1 [.int .i64 1] rfl rfl (news_blk (Blk.new _ 3 _)) (by intro u hu; simp at hu; subst hu; rfl) (t + 1) rfl (((P.take (t + 1)).map pick2).map (.int .i64)) (by rw [HTK.out]; simp) (by unfold maxLen; omega) (by omega) (Nat.le_trans hbz (by simp)) ?_; intro a7 k7 w7 hown7 hgr7 hbl7; have HK1 := Lib.hid ((H3.out.alloc _).push hown7 hgr7 hbl7); have HB7 := Lib.hid (below_grown (HB.out.alloc hbz _) hgr7 (Nat.le_trans hbz (by simp)) H3.out.below); have hw7 := HB7.out.size))
          go_roundg (pn - (t + 1))
          case rel => exact ⟨t + 1, nf, ns + 1, a7, fA, a8, k7, kf, k8, by omega, by omega, by go_num, rfl, rfl, rfl, rfl, by rw [HF.out]; exact HNF.out, by rw [HS.out, HNS.out]; simp, by rw [HF.out]; exact ((HK1.out.alloc _).swapZ.push hown8 hgr8 hbl8).swapZ, below_grown (HB7.out.alloc hw7 _) hgr8 (Nat.le_trans hw7 (by simp)) HK1.out.swapZ.below⟩
          case measure => omega
      · have hq : ∀ x ∈ (P.take t).map pick2, x = 0 ∨ x = 1 := fun x hx => by
          obtain ⟨y, _, rfl⟩ := List.mem_map.1 hx
          unfold pick2
          omega
        obtain ⟨c0, c1, ra, rb, da, db, n1, n2, hn1, hn2, hx1, hx2, hx3⟩ := apart_run HOK.out hq (by rw [HQL.out]; exact ht3)
        have hcase : (((t : Int) < (pn : Int)) ∧ ¬ ((t : Int) < 300)) ∨ ¬ ((t : Int) < (pn : Int)) := by omega
        have hwB : Below w.heap.size w wr := HB5.out.trans (HB.out.mono HB5.out.size)
        have hrunX : ∀ X (g g1 : Nat), Below wr.heap.size wr X → X.heap.size = g → X.heap.size + 1 = g1 → Calls Try.prog 13 #[.slice (some ⟨g, 0, none⟩) 2 2, .slice (some ⟨g1, 0, none⟩) 2 2, .slice pA t kp] ((X.alloc (.cells #[.slice a4 A.length k4, .slice a5 B.length k5] 43)).alloc (.cells #[.int .u64 3, .int .u64 4] 38))
            fun e w' => ∃ (ac : Option Addr) (kc : Nat) (ar : Option Addr) (kr : Nat) (ad : Option Addr) (kd : Nat), e = .returned (.tuple #[.agg #[.slice ac 2 kc, .slice ar 2 kr, .slice ad 2 kd, .int .i64 ((n1 + n2 : Nat) : Int)], .int .i64 0]) ∧
              RepAt X.heap.size w' (.slice ac 2 kc) (.slice ar 2 kr) (.slice ad 2 kd) ⟨[c0, c1], [ra, rb], [da, db], n1 + n2⟩ ∧ Below X.heap.size X w' := fun X g g1 hX hg hg1 => by
          subst hg hg1
          have b := HB.out.trans (hX.mono hbz)
          exact run_lit X _ 2 [ov 0 A, ov 1 B] rfl (by omega) pA t kp _ HQL.out ht3 hx1 (fun W h1 h2 => rdT_two (by rw [ov_len, ov_len]; exact h2) (by rw [ov_len]; exact kA1) kA2 (by rw [ov_len]; exact kB1) kB2 ((HA.out.below (b.trans (h1.mono b.size))).mono (Nat.le_trans b.size h1.size)) ((HBB.out.below (b.trans (h1.mono b.size))).mono (Nat.le_trans b.size h1.size)))
            (((OwnN.rd' H3.out.ox).below hX).mono hX.size)
        have hrunY : ∀ X (g g1 : Nat), Below wr.heap.size wr X → X.heap.size = g → X.heap.size + 1 = g1 → Calls Try.prog 13 #[.slice (some ⟨g, 0, none⟩) 1 1, .slice (some ⟨g1, 0, none⟩) 2 2, .slice fA nf kf] ((X.alloc (.cells #[.slice a4 A.length k4] 43)).alloc (.cells #[.int .u64 3, .int .u64 4] 38))
            fun e w' => ∃ (ac : Option Addr) (kc : Nat) (ar : Option Addr) (kr : Nat) (ad : Option Addr) (kd : Nat), e = .returned (.tuple #[.agg #[.slice ac 2 kc, .slice ar 1 kr, .slice ad 1 kd, .int .i64 (n1 : Int)], .int .i64 0]) ∧
              RepAt X.heap.size w' (.slice ac 2 kc) (.slice ar 1 kr) (.slice ad 1 kd) ⟨[c0, 4], [ra], [da], n1⟩ ∧ Below X.heap.size X w' := fun X g g1 hX hg hg1 => by
          subst hg hg1
          have b := HB.out.trans (hX.mono hbz)
          exact run_lit X _ 1 [ov 0 A] rfl (by omega) fA nf kf _ HNF.out.symm hnf3 hx2 (fun W h1 h2 => rdT_one (by rw [ov_len]; exact h2) (by rw [ov_len]; exact kA1) kA2 ((HA.out.below (b.trans (h1.mono b.size))).mono (Nat.le_trans b.size h1.size)))
            (((OwnN.rd' H3.out.oy).below hX).mono hX.size)
        have hrunZ : ∀ X (g g1 : Nat), Below wr.heap.size wr X → X.heap.size = g → X.heap.size + 1 = g1 → Calls Try.prog 13 #[.slice (some ⟨g, 0, none⟩) 1 1, .slice (some ⟨g1, 0, none⟩) 2 2, .slice sA ns ks] ((X.alloc (.cells #[.slice a5 B.length k5] 43)).alloc (.cells #[.int .u64 3, .int .u64 4] 38))
            fun e w' => ∃ (ac : Option Addr) (kc : Nat) (ar : Option Addr) (kr : Nat) (ad : Option Addr) (kd : Nat), e = .returned (.tuple #[.agg #[.slice ac 2 kc, .slice ar 1 kr, .slice ad 1 kd, .int .i64 (n2 : Int)], .int .i64 0]) ∧
              RepAt X.heap.size w' (.slice ac 2 kc) (.slice ar 1 kr) (.slice ad 1 kd) ⟨[3, c1], [rb], [db], n2⟩ ∧ Below X.heap.size X w' := fun X g g1 hX hg hg1 => by
          subst hg hg1
          have b := HB.out.trans (hX.mono hbz)
          exact run_lit X _ 1 [ov 1 B] rfl (by omega) sA ns ks _ HNS.out.symm hns3 hx3 (fun W h1 h2 => rdT_one (by rw [ov_len]; exact h2) (by rw [ov_len]; exact kB1) kB2 ((HBB.out.below (b.trans (h1.mono b.size))).mono (Nat.le_trans b.size h1.size)))
            (((OwnN.rd' H3.out.oz).below hX).mono hX.size)
        clear hx1 hx2 hx3
        have hcast : ((n1 + n2 : Nat) : Int) = (n1 : Int) + (n2 : Int) := by omega
        rw [hcast] at hrunX
        clear hcast
        rcases hcase with ⟨hc1, hc2⟩ | hc1
        all_goals
          go_upto_region 19 with (first
            | (go_at_call_of 13 sA; refine (hrunZ _ _ _ hX3 (by simp) (by simp)).mono ?_; rintro e w12 ⟨ac3, kc3, ar3, kr3, ad3, kd3, rfl, hR12, b12⟩)
            | (go_at_call_of 13 fA; refine (hrunY _ _ _ hX2 (by simp) (by simp)).mono ?_; rintro e w10 ⟨ac2, kc2, ar2, kr2, ad2, kd2, rfl, hR10, b10⟩; have hX3 := (hX2.trans (b10.mono hX2.size)).alloc (Nat.le_trans hX2.size b10.size) (.cells #[.slice ac2 2 kc2, .slice ar2 1 kr2, .slice ad2 1 kd2, .int .i64 (n1 : Int)] 34))
            | (go_at_call_of 13 pA; refine (hrunX _ _ _ (Below.refl _ _) rfl rfl).mono ?_; rintro e w8 ⟨ac1, kc1, ar1, kr1, ad1, kd1, rfl, hR8, b8⟩; have hX2 := b8.alloc b8.size (.cells #[.slice ac1 2 kc1, .slice ar1 2 kr1, .slice ad1 2 kd1, .int .i64 ((n1 : Int) + (n2 : Int))] 34)))
          have fX := idleF_new (R := ⟨[c0, c1], [ra, rb], [da, db], n1 + n2⟩) hwB b8 hR8
          have fX := ((((fX.below' b10).alloc (.cells #[.slice ac2 2 kc2, .slice ar2 1 kr2, .slice ad2 1 kd2, .int .i64 (n1 : Int)] 34)).below' b12).alloc (.cells #[.slice ac3 2 kc3, .slice ar3 1 kr3, .slice ad3 1 kd3, .int .i64 (n2 : Int)] 34))
          have hwX := hwB.trans (hX2.mono hwB.size)
          have fY := idleF_new (R := ⟨[c0, 4], [ra], [da], n1⟩) hwX b10 hR10
          have fY := (fY.below' b12).alloc (.cells #[.slice ac3 2 kc3, .slice ar3 1 kr3, .slice ad3 1 kd3, .int .i64 (n2 : Int)] 34)
          have hwY := hwB.trans (hX3.mono hwB.size)
          have fZ : IdleF w w12.heap.size (.slice ac3 2 kc3) (.slice ar3 1 kr3) (.slice ad3 1 kd3) ⟨[3, c1], [rb], [db], n2⟩ (w12.alloc (.cells #[.slice ac3 2 kc3, .slice ar3 1 kr3, .slice ad3 1 kd3, .int .i64 (n2 : Int)] 34)) := idleF_new (R := ⟨[3, c1], [rb], [db], n2⟩) hwY b12 hR12
          have x0 := fX.box.at 0 rfl
          have x1 := fX.box.at 1 rfl
          have x2 := fX.box.at 2 rfl
          have x3 : _ = some (Value.int .i64 ((n1 + n2 : Nat) : Int)) := fX.box.at 3 rfl
          rw [show ((n1 + n2 : Nat) : Int) = (n1 : Int) + (n2 : Int) by omega] at x3
          have y0 := fY.box.at 0 rfl
          have y1 := fY.box.at 1 rfl
          have y2 := fY.box.at 2 rfl
          have y3 := fY.box.at 3 rfl
          have z0 := fZ.box.at 0 rfl
          have z1 := fZ.box.at 1 rfl
          have z2 := fZ.box.at 2 rfl
          have z3 := fZ.box.at 3 rfl
          have hra8 := (fX.rep.rlen ra (by simp)).1
          have hrb8 := (fX.rep.rlen rb (by simp)).1
          obtain ⟨xc, e1, _, _, xC⟩ := own_at fX.rep.cells.1 (by simp)
          obtain ⟨xr, e2, _, _, xR⟩ := own_at fX.rep.regs (by simp)
          obtain ⟨xd, e3, _, _, xD⟩ := own_at fX.rep.done (by simp)
          obtain ⟨yc, e4, _, _, yC⟩ := own_at fY.rep.cells.1 (by simp)
          obtain ⟨yr, e5, _, _, yR⟩ := own_at fY.rep.regs (by simp)
          obtain ⟨yd, e6, _, _, yD⟩ := own_at fY.rep.done (by simp)
          obtain ⟨zc, e7, _, _, zC⟩ := own_at fZ.rep.cells.1 (by simp)
          obtain ⟨zr, e8, _, _, zR⟩ := own_at fZ.rep.regs (by simp)
          obtain ⟨zd, e9, _, _, zD⟩ := own_at fZ.rep.done (by simp)
          subst e1 e2 e3 e4 e5 e6 e7 e8 e9
          have xC0 := xC 0 _ rfl
          have xC1 := xC 1 _ rfl
          have xD0 := xD 0 _ rfl
          have xD1 := xD 1 _ rfl
          have yC0 := yC 0 _ rfl
          have yD0 := yD 0 _ rfl
          have zC1 := zC 1 _ rfl
          have zD0 := zD 0 _ rfl
          have HF := Lib.hid fX.below
          obtain ⟨a0, a1, a2, a3, a4', a5', a6, a7, rfl⟩ := eight hra8
          obtain ⟨d0, d1, d2, d3, d4, d5, d6, d7, rfl⟩ := eight hrb8
          have xa0 := xR 0 _ rfl
          have xa1 := xR 1 _ rfl
          have xa2 := xR 2 _ rfl
          have xa3 := xR 3 _ rfl
          have xa4 := xR 4 _ rfl
          have xa5 := xR 5 _ rfl
          have xa6 := xR 6 _ rfl
          have xa7 := xR 7 _ rfl
          have xb0 := xR 8 _ rfl
          have xb1 := xR 9 _ rfl
          have xb2 := xR 10 _ rfl
          have xb3 := xR 11 _ rfl
          have xb4 := xR 12 _ rfl
          have xb5 := xR 13 _ rfl
          have xb6 := xR 14 _ rfl
          have xb7 := xR 15 _ rfl
          have ya0 := yR 0 _ rfl
          have ya1 := yR 1 _ rfl
          have ya2 := yR 2 _ rfl
          have ya3 := yR 3 _ rfl
          have ya4 := yR 4 _ rfl
          have ya5 := yR 5 _ rfl
          have ya6 := yR 6 _ rfl
          have ya7 := yR 7 _ rfl
          have zb0 := zR 0 _ rfl
          have zb1 := zR 1 _ rfl
          have zb2 := zR 2 _ rfl
          have zb3 := zR 3 _ rfl
          have zb4 := zR 4 _ rfl
          have zb5 := zR 5 _ rfl
          have zb6 := zR 6 _ rfl
          have zb7 := zR 7 _ rfl
          have qa := fun W => run_eql_words W #[Value.int .u64 (a0 : Nat), Value.int .u64 (a1 : Nat), Value.int .u64 (a2 : Nat), Value.int .u64 (a3 : Nat), Value.int .u64 (a4' : Nat), Value.int .u64 (a5' : Nat), Value.int .u64 (a6 : Nat), Value.int .u64 (a7 : Nat)] (uvl_at (l := [a0, a1, a2, a3, a4', a5', a6, a7]) rfl)
          have qb := fun W => run_eql_words W #[Value.int .u64 (d0 : Nat), Value.int .u64 (d1 : Nat), Value.int .u64 (d2 : Nat), Value.int .u64 (d3 : Nat), Value.int .u64 (d4 : Nat), Value.int .u64 (d5 : Nat), Value.int .u64 (d6 : Nat), Value.int .u64 (d7 : Nat)] (uvl_at (l := [d0, d1, d2, d3, d4, d5, d6, d7]) rfl)
          clear fX fY fZ xC xR xD yC yR yD zC zR zD hR8 hR10 hR12 b8 b10 b12 hX2 hX3 hrunX hrunY hrunZ hra8 hrb8
          have hn12 : IntKind.i64.wrap ((n1 : Int) + (n2 : Int)) = (n1 : Int) + (n2 : Int) := IntWalk.i64_in _ (by omega)
          go_upto_region 21 with fail
          go_quiet (fail)
          go_wp2_with fail
          go_ret
          exact ⟨rfl, below_drewN HF.out _⟩

end Go.Proofs.Ytlcgighhiacnpaa
