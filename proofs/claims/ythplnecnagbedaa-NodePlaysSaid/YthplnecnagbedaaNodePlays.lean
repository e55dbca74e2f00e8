/- The walk of the law NodePlays: a node and the reference's node go alike; conditions: as what came in reads. -/
import Derived.Test.YthplnecnagbedaaRnSame
import Derived.Test.YthplnecnagbedaaNtWorks
import Derived.Deep.DeepCutAuto
import Derived.Deep.CutBlock
namespace Go.Proofs.Ythplnecnagbedaa
open Go.RowKit

/-- Both nodes lie in the call's own memory and stand alike. -/
structure Pl (w W : World) (g r kb vb : Nat) (N : Nd) : Prop where
  nd : Blk W g 95 (ndCells N)
  rf : RNd W r kb vb N
  bel : Below w.heap.size w W
  hg : w.heap.size ≤ g
  hr : w.heap.size ≤ r
  hk : w.heap.size ≤ kb
  hv : w.heap.size ≤ vb
section
variable {w W W' W2 : World} {g r kb vb : Nat} {N N' : Nd}
theorem Pl.next (h : Pl w W g r kb vb N) (b : Below W.heap.size W W') : Pl w W' g r kb vb N := ⟨h.nd.below b h.nd.lt, h.rf.next b, h.bel.trans (b.mono h.bel.size), h.hg, h.hr, h.hk, h.hv⟩
theorem Pl.rf1 (h : Pl w W g r kb vb N) (hc : Chg [g] W W') : RNd W' r kb vb N := h.rf.chg hc (by simpa using h.rf.top.ne h.nd (by decide)) (by simpa using h.rf.keys.ne h.nd (by decide)) (by simpa using h.rf.vals.ne h.nd (by decide))
theorem far3 {t : TypeId} {x : Nat} {cs : Array Value} (hR : RNd W r kb vb N) (hx : Blk W x t cs) (h1 : t ≠ 101) (h2 : t ≠ 9) (h3 : t ≠ 3) (hc : Chg [r, kb, vb] W W') : Blk W' x t cs := hx.chg hc (by
  have a := hx.ne hR.top h1
  have b := hx.ne hR.keys h2
  have c := hx.ne hR.vals h3
  simp [a, b, c])
theorem Pl.both (h : Pl w W g r kb vb N) (hN : Blk W' g 95 (ndCells N')) (hc : Chg [g] W W') (hR : RNd W2 r kb vb N') (hc2 : Chg [r, kb, vb] W' W2) : Pl w W2 g r kb vb N' := by
  have z := h.bel.size
  have z1 := hc.size
  refine ⟨far3 (h.rf1 hc) hN (by decide) (by decide) (by decide) hc2, hR, below_chg (below_chg h.bel hc z (by simp; exact h.hg)) hc2 (by omega) (by simp; exact ⟨h.hr, h.hk, h.hv⟩), h.hg, h.hr, h.hk, h.hv⟩
theorem Pl.right {g2 r2 kb2 vb2 : Nat} {R : Nd} (h : Pl w W g r kb vb N) (hb : Pl w W2 g r kb vb N') (hc : Chg [g] W W') (hc2 : Chg [r, kb, vb] W' W2) (h1 : W.heap.size ≤ g2) (h2 : W'.heap.size ≤ r2 ∧ W'.heap.size ≤ kb2 ∧ W'.heap.size ≤ vb2) (hN : Blk W' g2 95 (ndCells R)) (hR : RNd W2 r2 kb2 vb2 R) : Pl w W2 g2 r2 kb2 vb2 R := by
  have z := h.bel.size
  have z1 := hc.size
  obtain ⟨h3, h4, h5⟩ := h2
  exact ⟨far3 (h.rf1 hc) hN (by decide) (by decide) (by decide) hc2, hR, hb.bel, by omega, by omega, by omega, by omega⟩
end
theorem putM_insP (N : Nd) (k : ByteArray) (v : Int) : (putM N k v).1.ins ≤ N.ins + 15 ∧ (putM N k v).1.spl ≤ N.spl + 1 := by
  have := putM_ins N k v
  refine ⟨by omega, ?_⟩
  unfold putM
  split
  · simp
  · split
    · simp
    · split <;> simp
theorem takeM_insP (N : Nd) (k : ByteArray) : (takeM N k).1.ins ≤ N.ins + 15 ∧ (takeM N k).1.spl ≤ N.spl + 1 := by
  have := takeM_ins N k
  have h2 := takeM_spl N k
  omega
theorem putM_splP (N : Nd) (k : ByteArray) (v : Int) : (putM N k v).1.spl = N.spl := by
  unfold putM
  split
  · rfl
  · split
    · rfl
    · split <;> rfl
theorem putAll_splP (N R : Nd) (L : List ByteArray) : (putAll N R L).spl = R.spl := by
  induction L generalizing R with
  | nil => rfl
  | cons k L ih =>
    have : putAll N R (k :: L) = putAll N (putM R k (getM N k).1).1 L := rfl
    rw [this, ih, putM_splP]
theorem splitR_insP (N : Nd) : (splitR N).ins ≤ N.ins + 15 ∧ (splitR N).spl ≤ N.spl + 1 := by
  have h1 := putAll_ins N nd0 (upperM N)
  have h2 : splitR N = putAll N nd0 (upperM N) := rfl
  have h3 : (upperM N).length ≤ 15 := by unfold upperM; rw [List.length_drop, keysM_len]; unfold Nd.u; omega
  have h4 := putAll_splP N nd0 (upperM N)
  have h5 : nd0.ins = 0 := rfl
  have h6 : nd0.spl = 0 := rfl
  rw [h2]
  omega
theorem splitL_insP {N : Nd} (h : NdOk N) : (splitL N).ins ≤ N.ins + 15 ∧ (splitL N).spl ≤ N.spl + 1 := by
  have h1 := takeAll_ins N (upperM N)
  have h2 : (splitL N).ins = (takeAll N (upperM N)).ins := rfl
  have h3 : (upperM N).length ≤ 15 := by unfold upperM; rw [List.length_drop, keysM_len]; have := h.u15; omega
  have h4 : (splitL N).spl = N.spl + 1 := rfl
  omega

set_option maxRecDepth 100000 in
set_option maxHeartbeats 4000000 in
theorem nodePlays_any (w : World) (aa : Option Addr) (an ac : Nat) (A : List ActN) (hA : A.length = an) (_hla : an ≤ 9223372036854775807) (hrd : RdA w w.heap.size aa A) :
    Calls Try.prog 8 #[.slice aa an ac] w fun e w' => e = .returned (.bool true) ∧ Below w.heap.size w w' := by
  have HA := Lib.hid hA
  have HRD := Lib.hid hrd
  clear hA hrd
  go_enter Try.func8, Try.ntmps8
  go_upto_region 2 with (first | (go_at_call 34; refine (rnew_any _).mono ?_; rintro e w2 ⟨kb0, vb0, rfl, hR2, q1, q2, q3, b2⟩) | (go_at_call 24; refine (new_any _).mono ?_; rintro e w1 ⟨rfl, hN1, b1, hlt1⟩))
  obtain ⟨N0, hN0, hok0, hi0, hs0⟩ : ∃ N, N = nd0 ∧ NdOk N ∧ N.ins = 0 ∧ N.spl = 0 := ⟨nd0, rfl, nd0_ok, rfl, rfl⟩
  rw [← hN0] at hN1 hR2
  have hz1 := b1.size
  have hP0 : Pl w w2 (w1.heap.size - 1) (w2.heap.size - 1) kb0 vb0 N0 := ⟨hN1.below b2 hN1.lt, hR2, b1.trans (b2.mono b1.size), by omega, by omega, by omega, by omega⟩
  generalize w1.heap.size - 1 = g0 at hP0 ⊢
  generalize w2.heap.size - 1 = r0 at hP0 ⊢
  have HP0 := Lib.hid hP0
  have HOK := Lib.hid hok0
  have HI0 := Lib.hid hi0
  have HS0 := Lib.hid hs0
  clear hN0 hN1 hR2 q1 q2 q3 b1 b2 hlt1 hP0 hok0 hi0 hs0 hz1
  go_wp2_with fail
  go_loopg [3, 4, 5] an (fun gn vn vr i wr => ∃ (t g r kb vb : Nat) (N : Nd), t ≤ an ∧ t ≤ 300 ∧ vn = .pointer (some ⟨g, 0, none⟩) ∧ vr = .pointer (some ⟨r, 0, none⟩) ∧ i = .int .i64 t ∧ gn = an - t ∧
    NdOk N ∧ N.ins ≤ 20 * t ∧ N.spl ≤ t ∧ Pl w wr g r kb vb N)
  case atStart => exact ⟨0, g0, r0, kb0, vb0, N0, Nat.zero_le _, Nat.zero_le _, rfl, rfl, rfl, rfl, HOK.out, by rw [HI0.out]; exact Nat.le_refl _, by rw [HS0.out]; exact Nat.le_refl _, HP0.out⟩
  case round =>
    clear HI0 HS0 HP0 HOK
    obtain ⟨t, g, r, kb, vb, N, hta, ht2, rfl, rfl, rfl, rfl, hok, hins, hspl, hP⟩ := hrel
    have hbz := hP.bel.size
    by_cases hgo : t < an ∧ t < 300
    · obtain ⟨h1, h2⟩ := hgo
      obtain ⟨ba, oa, e1, hba, c0, c1, c2⟩ := HRD.out t (by rw [HA.out]; exact h1)
      subst e1
      have c0 := (hP.bel.cell (p := ⟨ba, _, none⟩) hba).trans c0
      have c1 := (hP.bel.cell (p := ⟨ba, _, none⟩) hba).trans c1
      have c2 := (hP.bel.cell (p := ⟨ba, _, none⟩) hba).trans c2
      generalize A.getD t actN0 = x at c0 c1 c2
      obtain ⟨xk, key, val⟩ := x
      dsimp only at c0 c1 c2
      have ham := fun W => among_any xk 5 W (by omega) (by omega)
      have hr5 : xk % 5 = 0 ∨ xk % 5 = 1 ∨ xk % 5 = 2 ∨ xk % 5 = 3 ∨ xk % 5 = 4 := by omega
      generalize xk % 5 = m at ham hr5
      obtain ⟨W0, hW0⟩ : ∃ W0, W0 = wr.alloc (.cells #[.int .i64 xk, .string key, .int .i64 val] 36) := ⟨_, rfl⟩
      have hP0 : Pl w W0 g r kb vb N := by rw [hW0]; exact hP.next ((Below.refl _ wr).alloc (Nat.le_refl _) _)
      have hbx : Blk W0 wr.heap.size 36 #[.int .i64 xk, .string key, .int .i64 val] := by rw [hW0]; exact Blk.new _ _ _
      have HW0 := Lib.hid hW0
      have hput := put_any W0 g N hok (by omega) hP0.nd key val
      have htake := take_any W0 g N hok (by omega) hP0.nd key
      have hget := get_any W0 g N hok hP0.nd key
      have hspt := split_any W0 g N hok (by omega) (by omega) hP0.nd
      have HP0 := Lib.hid hP0
      have HBX := Lib.hid hbx
      have HOK := Lib.hid hok
      rw [hW0] at hput htake hget hspt
      clear hW0 hP hok hP0
      go_upto_block 2 with (go_at_call 25; refine (ham _).mono ?_; rintro e w3 ⟨rfl, rfl⟩)
      go_cut [3, 4] (fun vn vr wx => ∃ (g r kb vb : Nat) (N' : Nd), vn = .pointer (some ⟨g, 0, none⟩) ∧ vr = .pointer (some ⟨r, 0, none⟩) ∧ NdOk N' ∧ N'.ins ≤ 20 * (t + 1) ∧ N'.spl ≤ t + 1 ∧ Pl w wx g r kb vb N')
      case first =>
        rcases hr5 with rfl | rfl | rfl | hr5
        · have hpok := putM_ok HOK.out key val
          have hpi := putM_insP N key val
          have hrp := fun W h => rput_any W r kb vb N HOK.out (by omega) h key val
          unfold PutPost at hput
          unfold RPut at hrp
          generalize putM N key val = R at hput hpok hpi hrp
          obtain ⟨N', o1, o2, o3⟩ := R
          dsimp only at hput hpok hpi hrp
          have HPOK := Lib.hid hpok
          have HRP := Lib.hid hrp
          clear hpok hrp hget htake hspt hbx ham
          go_wp2_with (first
            | (go_at_call 26; refine hput.mono ?_; rintro e w5 ⟨rfl, hN5, hc5⟩; rw [← HW0.out] at hc5; have hbx5 := HBX.out.chg hc5 (by simpa using HBX.out.ne HP0.out.nd (by decide)); have cx1 := hbx5.at 1 rfl; have cx2 := hbx5.at 2 rfl; have HN5 := Lib.hid hN5; have HC5 := Lib.hid hc5; clear hN5 hc5)
            | (go_at_call 35; refine (HRP.out _ (HP0.out.rf1 HC5.out)).mono ?_; rintro e w6 ⟨rfl, hR6, hc6⟩))
          go_meet
          exact ⟨g, r, kb, vb, N', rfl, rfl, HPOK.out, by omega, by omega, HP0.out.both HN5.out HC5.out hR6 hc6⟩
        · have hrg := fun W h => rget_any W r kb vb N HOK.out h key
          generalize getM N key = R at hget hrg
          obtain ⟨o1, o2⟩ := R
          dsimp only at hget hrg
          have HRG := Lib.hid hrg
          clear hrg hput htake hspt hbx ham
          go_wp2_with (first
            | (go_at_call 27; refine hget.mono ?_; rintro e w5 ⟨rfl, b5⟩; rw [← HW0.out] at b5; have hbx5 := HBX.out.below b5 HBX.out.lt; have cx1 := hbx5.at 1 rfl; have HP5 := Lib.hid (HP0.out.next b5); clear b5)
            | (go_at_call 36; refine (HRG.out _ HP5.out.rf).mono ?_; rintro e w6 ⟨rfl, b6⟩))
          go_meet
          exact ⟨g, r, kb, vb, N, rfl, rfl, HOK.out, by omega, by omega, HP5.out.next b6⟩
        · have hpok := takeM_ok HOK.out key
          have hpi := takeM_insP N key
          have hrp := fun W h => rtake_any W r kb vb N HOK.out (by omega) h key
          unfold TakePost at htake
          unfold RTake at hrp
          generalize takeM N key = R at htake hpok hpi hrp
          obtain ⟨N', o1, o2⟩ := R
          dsimp only at htake hpok hpi hrp
          have HPOK := Lib.hid hpok
          have HRP := Lib.hid hrp
          clear hpok hrp hget hput hspt hbx ham
          go_wp2_with (first
            | (go_at_call 28; refine htake.mono ?_; rintro e w5 ⟨rfl, hN5, hc5⟩; rw [← HW0.out] at hc5; have hbx5 := HBX.out.chg hc5 (by simpa using HBX.out.ne HP0.out.nd (by decide)); have cx1 := hbx5.at 1 rfl; have HN5 := Lib.hid hN5; have HC5 := Lib.hid hc5; clear hN5 hc5)
            | (go_at_call 37; refine (HRP.out _ (HP0.out.rf1 HC5.out)).mono ?_; rintro e w6 ⟨rfl, hR6, hc6⟩))
          go_meet
          exact ⟨g, r, kb, vb, N', rfl, rfl, HPOK.out, by omega, by omega, HP0.out.both HN5.out HC5.out hR6 hc6⟩
        · have hrs := fun W h => rsplit_any W r kb vb N HOK.out (by omega) (by omega) h
          by_cases hu : N.u < 2
          · have hs2 : Calls Try.prog 31 #[.pointer (some ⟨g, 0, none⟩)] (wr.alloc (.cells #[.int .i64 xk, .string key, .int .i64 val] 36)) fun e w' => e = .returned (.tuple #[.pointer none, .string ⟨#[]⟩, .int .i64 4]) ∧ Below (wr.alloc (.cells #[.int .i64 xk, .string key, .int .i64 val] 36)).heap.size (wr.alloc (.cells #[.int .i64 xk, .string key, .int .i64 val] 36)) w' := hspt.mono fun e w' h => by
              rcases h with ⟨_, h2, h3⟩ | ⟨h1, _⟩
              · exact ⟨h2, h3⟩
              · omega
            have hr2 : ∀ W, RNd W r kb vb N → Calls Try.prog 38 #[.pointer (some ⟨r, 0, none⟩)] W fun e w' => e = .returned (.tuple #[.pointer none, .string ⟨#[]⟩, .int .i64 4]) ∧ Below W.heap.size W w' := fun W hW => (hrs W hW).mono fun e w' h => by
              rcases h with ⟨_, h2, h3⟩ | ⟨h1, _⟩
              · exact ⟨h2, h3⟩
              · omega
            have HR2 := Lib.hid hr2
            clear hrs hr2 hget htake hput hspt hbx hu
            rcases hr5 with rfl | rfl
            all_goals
              go_wp2_with (first
                | (go_at_call 31; refine hs2.mono ?_; rintro e w5 ⟨rfl, b5⟩; rw [← HW0.out] at b5; have HP5 := Lib.hid (HP0.out.next b5); clear b5)
                | (go_at_call 38; refine (HR2.out _ HP5.out.rf).mono ?_; rintro e w6 ⟨rfl, b6⟩; have HP6 := Lib.hid (HP5.out.next b6); clear b6)
                | (go_at_call 39; refine (same_any _ g r kb vb N HOK.out HP6.out.nd HP6.out.rf).mono ?_; rintro e w7 ⟨rfl, b7⟩))
              go_meet
              exact ⟨g, r, kb, vb, N, rfl, rfl, HOK.out, by omega, by omega, HP6.out.next b7⟩
          · have hlk := splitL_ok HOK.out
            have hrk := splitR_ok N
            have hli := splitL_insP HOK.out
            have hri := splitR_insP N
            have hs2 : Calls Try.prog 31 #[.pointer (some ⟨g, 0, none⟩)] (wr.alloc (.cells #[.int .i64 xk, .string key, .int .i64 val] 36)) fun e w' => ∃ g2, (wr.alloc (.cells #[.int .i64 xk, .string key, .int .i64 val] 36)).heap.size ≤ g2 ∧ e = .returned (.tuple #[.pointer (some ⟨g2, 0, none⟩), .string ((upperM N).getD 0 emp), .int .i64 0]) ∧ Blk w' g 95 (ndCells (splitL N)) ∧ Blk w' g2 95 (ndCells (splitR N)) ∧ Chg [g] (wr.alloc (.cells #[.int .i64 xk, .string key, .int .i64 val] 36)) w' := hspt.mono fun e w' h => by
              rcases h with ⟨h1, _⟩ | ⟨_, h2⟩
              · omega
              · exact h2
            have hr2 : ∀ W, RNd W r kb vb N → Calls Try.prog 38 #[.pointer (some ⟨r, 0, none⟩)] W fun e w' => ∃ r2 kb2 vb2, (W.heap.size ≤ r2 ∧ W.heap.size ≤ kb2 ∧ W.heap.size ≤ vb2) ∧ e = .returned (.tuple #[.pointer (some ⟨r2, 0, none⟩), .string ((upperM N).getD 0 emp), .int .i64 0]) ∧ RNd w' r kb vb (splitL N) ∧ RNd w' r2 kb2 vb2 (splitR N) ∧ Chg [r, kb, vb] W w' := fun W hW => (hrs W hW).mono fun e w' h => by
              rcases h with ⟨h1, _⟩ | ⟨_, h2⟩
              · omega
              · exact h2
            clear hrs hget htake hput hspt hbx hu
            generalize (upperM N).getD 0 emp = x at hs2 hr2
            generalize splitL N = LN at hs2 hr2 hlk hli
            generalize splitR N = RN at hs2 hr2 hrk hri
            have HR2 := Lib.hid hr2
            have HLK := Lib.hid hlk
            have HRK := Lib.hid hrk
            clear hr2 hlk hrk
            rcases hr5 with rfl | rfl
            all_goals
              go_wp2_with (first
                | (go_at_call 25; refine (ham _).mono ?_; rintro e w9 ⟨rfl, rfl⟩)
                | (go_at_call 39; (with_reducible refine (same_any _ g r kb vb LN HLK.out HL7.out.nd HL7.out.rf).mono ?_); rintro e w8 ⟨rfl, b8⟩; have HL8 := Lib.hid (HL7.out.next b8); have HG8 := Lib.hid (HG7.out.next b8); have hbx8 := HBX7.out.below b8 HBX7.out.lt; have cx8 := hbx8.at 0 rfl; clear b8)
                | (go_at_call 39; (with_reducible refine (same_any _ g2 r2 kb2 vb2 RN HRK.out HG6.out.nd HG6.out.rf).mono ?_); rintro e w7 ⟨rfl, b7⟩; have HL7 := Lib.hid (HL6.out.next b7); have HG7 := Lib.hid (HG6.out.next b7); have HBX7 := Lib.hid (HBX6.out.below b7 HBX6.out.lt); clear b7)
                | (go_at_call 31; refine hs2.mono ?_; rintro e w5 ⟨g2, hg2, rfl, hN5, hG5, hc5⟩; rw [← HW0.out] at hc5 hg2; have HBX5 := Lib.hid (HBX.out.chg hc5 (by simpa using HBX.out.ne HP0.out.nd (by decide))); have HN5 := Lib.hid hN5; have HC5 := Lib.hid hc5; have HGG5 := Lib.hid hG5; clear hN5 hc5 hG5)
                | (go_at_call 38; refine (HR2.out _ (HP0.out.rf1 HC5.out)).mono ?_; rintro e w6 ⟨r2, kb2, vb2, hr2, rfl, hR6, hRR6, hc6⟩; have HL6 := Lib.hid (HP0.out.both HN5.out HC5.out hR6 hc6); have HG6 := Lib.hid (HP0.out.right HL6.out HC5.out hc6 hg2 hr2 HGG5.out hRR6); have HBX6 := Lib.hid (far3 (HP0.out.rf1 HC5.out) HBX5.out (by decide) (by decide) (by decide) hc6); clear hR6 hRR6 hc6 hr2 hg2))
              go_meet
              first
                | exact ⟨g, r, kb, vb, LN, rfl, rfl, HLK.out, by omega, by omega, HL8.out⟩
                | exact ⟨g2, r2, kb2, vb2, RN, rfl, rfl, HRK.out, by omega, by omega, HG8.out⟩
      case rest =>
        clear hput htake hget hspt ham hbx hr5
        obtain ⟨g', r', kb', vb', N', rfl, rfl, hok', hi', hs', hP'⟩ := hcut
        have HP' := Lib.hid hP'
        have HOK' := Lib.hid hok'
        clear hP' hok'
        go_wp2_with (go_at_call 39; refine (same_any _ g' r' kb' vb' N' HOK'.out HP'.out.nd HP'.out.rf).mono ?_; rintro e w9 ⟨rfl, b9⟩)
        go_roundg (an - (t + 1))
        case rel => exact ⟨t + 1, g', r', kb', vb', N', by omega, by omega, rfl, rfl, by go_num, rfl, HOK'.out, by omega, by omega, HP'.out.next b9⟩
        case measure => omega
    · have hcase : (((t : Int) < (an : Int)) ∧ ¬ ((t : Int) < 300)) ∨ ¬ ((t : Int) < (an : Int)) := by omega
      have HP := Lib.hid hP
      clear hP hok
      rcases hcase with ⟨hc1, hc2⟩ | hc1
      all_goals
        go_wp2_with (go_at_call 23; refine (nodeWorks_any _).mono ?_; rintro e w2 ⟨rfl, b2⟩)
        go_ret
        exact ⟨rfl, (HP.out.next b2).bel⟩

end Go.Proofs.Ythplnecnagbedaa
