/- The law EpochFull walked: for every thing it returns true and leaves all that was there as it was; conditions: none. -/
import Derived.Test.YtmmaklddbkdenaaCkFreeTop
import Derived.Test.YtmmaklddbkdenaaAmong
namespace Go.Proofs.Ytmmaklddbkdenaa
open Go.RowKit

def F0 : Ck := newK 1 1 1
def F1 : Ck := adv F0
def F2 : Ck := adv F1
theorem f0_ok : F0.Ok := newK_ok (by decide)
theorem f1_ok : F1.Ok := adv_ok f0_ok
theorem f2_ok : F2.Ok := adv_ok f1_ok

def Above (B : Nat) (tv : Value) : Prop := ∀ g, tv.ownBlock = some g → B ≤ g
theorem Above.moved {B : Nat} {w : World} {tv tv' : Value} (h : Above B tv) (hm : Moved w tv tv') (hB : B ≤ w.heap.size) : Above B tv' := by
  intro g hg
  rcases hm with e | ⟨g', e, h2⟩
  · exact h g (e.symm.trans hg)
  · rw [e] at hg; injection hg with hg; omega
theorem Above.same {B : Nat} {tv tv' : Value} (h : Above B tv) (e : tv'.ownBlock = tv.ownBlock) : Above B tv' := fun g hg => h g (e.symm.trans hg)
theorem above_frame {B c : Nat} {tv : Value} (h : Above B tv) (hc : B ≤ c) : ∀ k ∈ c :: tv.ownBlock.toList, B ≤ k := by
  intro k hk
  simp only [List.mem_cons, Option.mem_toList] at hk
  rcases hk with rfl | hk
  · exact hc
  · exact h k hk

theorem keep_rep (k : Ck) (n : Nat) (x ep : Int) : keepT k (List.replicate n (x, ep)) = if freeP k ep then [] else List.replicate n (x, ep) := by
  unfold keepT; rw [List.filter_replicate]; cases freeP k ep <;> simp
theorem told_rep (k : Ck) (n : Nat) (x ep : Int) : toldT k (List.replicate n (x, ep)) = if freeP k ep then List.replicate n x else [] := by
  unfold toldT; rw [List.filter_replicate]; cases freeP k ep <;> simp

/-- What a Free that tells nothing leaves. -/
def FreeNone (k : Ck) (ts : List (Int × Int)) (c bw B : Nat) (w : World) (e : Ending) (w' : World) : Prop :=
  ∃ A cap tv', e = .returned (.slice A 0 cap) ∧ IsClock w' c bw tv' k ∧ Things w' tv' ts ∧ Above B tv' ∧ Below B w w'
theorem free_none (w : World) (c bw B : Nat) (tv : Value) (k : Ck) (ts : List (Int × Int)) (h : IsClock w c bw tv k) (hk : k.Ok) (hts : ts.length ≤ 4096) (ht : Things w tv ts) (ha : Above B tv) (hB : B ≤ w.heap.size) (hc : B ≤ c)
    (h1 : keepT k ts = ts) (h2 : toldT k ts = []) : Calls Try.prog 17 #[.pointer (some ⟨c, 0, none⟩)] w (FreeNone k ts c bw B w) := by
  refine (free_any w c bw tv k ts h hk hts ht).mono ?_
  rintro e w' ⟨tv', ov', he, h', ht', hown, hO, hch⟩
  rw [h1] at ht'
  rw [h2] at hO
  obtain ⟨A, cap, rfl, _⟩ := own_form hO
  exact ⟨A, cap, tv', he, h', ht', ha.same hown, hch.below hB (above_frame ha hc)⟩

/-- What a Free that tells x many times leaves. -/
def FreeAll (k : Ck) (n : Nat) (x : Int) (c bw B : Nat) (w : World) (e : Ending) (w' : World) : Prop :=
  ∃ g cap tv', e = .returned (.slice (some ⟨g, 0, none⟩) n cap) ∧ w'.cell? ⟨g, 0, none⟩ = some (.int .i64 x) ∧ IsClock w' c bw tv' k ∧ Things w' tv' [] ∧ Above B tv' ∧ Below B w w'
theorem free_all (w : World) (c bw B : Nat) (tv : Value) (k : Ck) (n : Nat) (x ep : Int) (h : IsClock w c bw tv k) (hk : k.Ok) (hn : 0 < n) (hts : n ≤ 4096) (ht : Things w tv (List.replicate n (x, ep))) (ha : Above B tv) (hB : B ≤ w.heap.size) (hc : B ≤ c)
    (hp : freeP k ep = true) : Calls Try.prog 17 #[.pointer (some ⟨c, 0, none⟩)] w (FreeAll k n x c bw B w) := by
  refine (free_any w c bw tv k _ h hk (by simpa using hts) ht).mono ?_
  rintro e w' ⟨tv', ov', he, h', ht', hown, hO, hch⟩
  rw [keep_rep, hp, if_pos rfl] at ht'
  rw [told_rep, hp, if_pos rfl] at hO
  rcases hO.2 with ⟨_, h0⟩ | ⟨g, cap, cur, rfl, _, hg, hl, _, hcs, htk⟩
  · simp at h0; omega
  · refine ⟨g, cap, tv', by simpa using he, ?_, h', ht', ha.same hown, hch.below hB (above_frame ha hc)⟩
    have hgb : Blk w' g 3 cur := hg
    refine hgb.at 0 ?_
    have : (cur.toList.take ((List.replicate n x).length * 1))[0]? = some (.int .i64 x) := by rw [htk]; simp [hn]
    rw [List.getElem?_take] at this
    simp [hn] at this
    simpa using this

def stF (q : Nat) : Ck := if q = 0 then F0 else if q = 1 then F1 else F2

set_option maxRecDepth 100000 in
set_option maxHeartbeats 2000000 in
theorem epochFull_any (w : World) (x : Int) : Calls Try.prog 5 #[.int .i64 x] w fun e w' => e = .returned (.bool true) ∧ Below w.heap.size w w' := by
  have hN := new_good 1 1 1 w (by decide)
  have hW := fun W => lawWorks_any W
  have o0 := f0_ok
  have o1 := f1_ok
  have o2 := f2_ok
  have a1 : advOk F0 = true := by decide
  have a2 : advE F0 = 0 := by decide
  have a3 : advOk F1 = true := by decide
  have a4 : advE F1 = 0 := by decide
  go_enter Try.func5, Try.ntmps5
  go_wp2_with (first | (go_at_call 9; refine hN.mono ?_; rintro e w1 ⟨rfl, h1, b1⟩) | (go_at_call 8; refine (hW _).mono ?_; rintro e w2 ⟨rfl, b2⟩))
  have z1 := b1.size
  have z2 := b2.size
  have h12 : IsClock w2 (w.heap.size + 1) w.heap.size (.slice none 0 0) F0 := ⟨h1.1.below b2 h1.1.lt, h1.2.below b2 h1.2.lt⟩
  have b12 := b1.trans (b2.mono z1)
  clear hN hW h1 b1 b2
  go_loopg [5] 4096 (fun gn iv wr => ∃ (q : Nat) (tv : Value), iv = .int .i64 q ∧ q ≤ 4096 ∧ gn = 4096 - q ∧ IsClock wr (w.heap.size + 1) w.heap.size tv F0 ∧ Things wr tv (List.replicate q (x, 1)) ∧ Above w.heap.size tv ∧ Below w.heap.size w wr)
  case atStart => exact ⟨0, _, rfl, Nat.zero_le _, rfl, h12, World.ownsRow_nil _ _ _ _, (fun g hg => by cases hg), b12⟩
  case round =>
    obtain ⟨q, tv, rfl, hq, rfl, hC, hT, hA, hb⟩ := hrel
    have hz := hb.size
    have hR := retire_any wr _ _ tv F0 _ hC hT (by simpa using hq) x
    by_cases hlt : q < 4096
    · have e1 : retE (List.replicate q (x, (1 : Int))) = 0 := by simp [retE]; omega
      have e2 : retT (List.replicate q (x, (1 : Int))) (x, F0.glob) = List.replicate (q + 1) (x, 1) := by
        have : ¬ 4096 ≤ q := by omega
        simp [retT, this, show F0.glob = 1 from rfl, List.replicate_succ']
      rw [e1, e2] at hR
      clear e1 e2
      go_wp2_with (go_at_call 16; refine hR.mono ?_; rintro e w3 ⟨rfl, tv3, h3, t3, c3, m3⟩)
      go_roundg (4096 - (q + 1))
      case rel => exact ⟨q + 1, tv3, by go_num, by omega, rfl, h3, t3, hA.moved m3 hz, below_chg hb c3 hz (above_frame hA (by omega))⟩
      case measure => omega
    · obtain rfl : q = 4096 := by omega
      have e1 : retE (List.replicate 4096 (x, (1 : Int))) = 2 := by simp [retE]
      have e2 : retT (List.replicate 4096 (x, (1 : Int))) (x, F0.glob) = List.replicate 4096 (x, 1) := by simp [retT]
      rw [e1, e2] at hR
      clear e1 e2
      have hp0 : freeP F0 1 = false := by decide
      have hF := fun (W : World) tv h1 h2 h3 h4 => free_none W (w.heap.size + 1) w.heap.size w.heap.size tv F0 (List.replicate 4096 (x, 1)) h1 o0 (by simp) h2 h3 h4 (by omega) (by rw [keep_rep, hp0]; rfl) (by rw [told_rep, hp0]; rfl)
      clear hp0
      go_wp2_with (first | (go_at_call 16; refine hR.mono ?_; rintro e w3 ⟨rfl, tv3, h3, t3, c3, m3⟩; have b3 := below_chg hb c3 hz (above_frame hA (by omega)); have y3 := hA.moved m3 hz; have z3 := b3.size) | (go_at_call 17; refine (hF _ _ h3 t3 y3 z3).mono ?_; rintro e w4 ⟨A4, cap4, tv4, rfl, h4, t4, y4, b4⟩))
      have b24 := b3.trans (b4.mono (Nat.le_refl _))
      go_loopg [6] 2 (fun gn iv wr => ∃ (q : Nat) (tv : Value), iv = .int .i64 q ∧ q ≤ 2 ∧ gn = 2 - q ∧ IsClock wr (w.heap.size + 1) w.heap.size tv (stF q) ∧ Things wr tv (List.replicate 4096 (x, 1)) ∧ Above w.heap.size tv ∧ Below w.heap.size w wr)
      case atStart => exact ⟨0, tv4, rfl, Nat.zero_le _, rfl, h4, t4, y4, b24⟩
      case round =>
        obtain ⟨q, tv5, rfl, hq, rfl, hC5, hT5, hA5, hb5⟩ := hrel
        have hz5 := hb5.size
        have hq3 : q = 0 ∨ q = 1 ∨ q = 2 := by omega
        rcases hq3 with rfl | rfl | rfl
        · have hE := advance_any wr _ _ tv5 F0 hC5 o0
          rw [a1, a2] at hE
          go_wp2_with (go_at_call 14; refine hE.mono ?_; rintro e w6 ⟨rfl, h6, c6⟩)
          go_roundg 1
          case rel => exact ⟨1, tv5, by go_num, by omega, rfl, h6, own_chg hT5 c6 (fun g hg => by have := own_ne hT5 hC5.1 (by decide); simp; rintro rfl; exact this hg.symm), hA5, below_chg hb5 c6 hz5 (by simp)⟩
          case measure => omega
        · have hE := advance_any wr _ _ tv5 F1 hC5 o1
          rw [a3, a4] at hE
          go_wp2_with (go_at_call 14; refine hE.mono ?_; rintro e w6 ⟨rfl, h6, c6⟩)
          go_roundg 0
          case rel => exact ⟨2, tv5, by go_num, by omega, rfl, h6, own_chg hT5 c6 (fun g hg => by have := own_ne hT5 hC5.1 (by decide); simp; rintro rfl; exact this hg.symm), hA5, below_chg hb5 c6 hz5 (by simp)⟩
          case measure => omega
        · have hp1 : freeP F2 1 = true := by decide
          have hF1 := free_all wr (w.heap.size + 1) w.heap.size w.heap.size tv5 F2 4096 x 1 hC5 o2 (by omega) (by omega) hT5 hA5 hz5 (by omega) hp1
          have hF2 := fun (W : World) tv h1 h2 h3 h4 => free_none W (w.heap.size + 1) w.heap.size w.heap.size tv F2 [] h1 o2 (by simp) h2 h3 h4 (by omega) rfl rfl
          have hR2 := fun (W : World) tv h1 h2 => retire_any W (w.heap.size + 1) w.heap.size tv F2 [] h1 h2 (by simp) x
          rw [show retE [] = 0 from rfl] at hR2
          clear hp1
          go_wp2_with (first | (go_at_call 17; refine hF1.mono ?_; rintro e w6 ⟨g6, cap6, tv6, rfl, c6, h6, t6, y6, b6⟩; have b16 := hb5.trans (b6.mono (Nat.le_refl _)); have z6 := b16.size) | (go_at_call 17; refine (hF2 _ _ h6 t6 y6 z6).mono ?_; rintro e w7 ⟨A7, cap7, tv7, rfl, h7, t7, y7, b7⟩) | (go_at_call 16; refine (hR2 _ _ h7 t7).mono ?_; rintro e w8 ⟨rfl, tv8, h8, t8, c8, m8⟩))
          go_ret
          have b17 := b16.trans (b7.mono (Nat.le_refl _))
          exact ⟨rfl, below_chg b17 c8 b17.size (above_frame y7 (by omega))⟩

end Go.Proofs.Ytmmaklddbkdenaa
