/- The law TreeMany by contract: 4096 keys are put in, one more is refused, every b-th is taken, the rest is there in order; conditions: none. -/
import Derived.Test.YthplnecnagbedaaTrKeep
import Derived.Test.YthplnecnagbedaaTmNum
import Derived.Deep.DeepCutAuto
import Derived.Deep.CutBlock
import Derived.BigQuiet
import Derived.IntWalk
import Derived.StillTailTactics
import Derived.Deep.RegionHeld3
namespace Go.Proofs.Ythplnecnagbedaa
open Go.RowKit

/-- A tree at tb, behind at most n calls, that holds E. -/
def Holds (B tb n : Nat) (E : List Ent) (w : World) : Prop := ∃ M T, M.tb = tb ∧ TS B w M T n ∧ entsT T = E
section
variable {B tb n : Nat} {E E' : List Ent} {w w' : World} {k : ByteArray} {v r0 r2 : Int} {r1 : Bool}
theorem Holds.below (h : Holds B tb n E w) (hb : Below w.heap.size w w') : Holds B tb n E w' := by
  obtain ⟨M, T, h1, h2, h3⟩ := h
  exact ⟨M, T, h1, h2.below hb, h3⟩
theorem Holds.mono (h : Holds B tb n E w) {m : Nat} (hm : n ≤ m) : Holds B tb m E w := by
  obtain ⟨M, T, h1, h2, h3⟩ := h
  exact ⟨M, T, h1, h2.mono hm, h3⟩
theorem Holds.sorted (h : Holds B tb n E w) : SortedE E := by
  obtain ⟨M, T, _, h2, rfl⟩ := h
  exact h2.ok.sorted
theorem Holds.put (h : Holds B tb n E w) (hn : n ≤ 10000) (hp : putSpec E k v = (E', r0, r1, r2)) :
    Calls Try.prog 43 #[.pointer (some ⟨tb, 0, none⟩), .string k, .int .i64 v] w fun e w' => e = .returned (.tuple #[.int .i64 r0, .bool r1, .int .i64 r2]) ∧ Holds B tb (n + 1) E' w' ∧ Below B w w' := by
  obtain ⟨M, T, rfl, h2, rfl⟩ := h
  refine (put_ts h2 hn k v).mono fun e w' ⟨T', M', s0, s1, s2, hP, he, hS, hF⟩ => ⟨?_, ⟨M', T', hF.tb, hS, by rw [hP.ents, hp]⟩, hF.bel h2⟩
  have := hP.res
  rw [hp] at this
  injection this with a b
  injection b with b c
  rw [he, a, b, c]
theorem Holds.take (h : Holds B tb n E w) (hn : n ≤ 10000) (hp : takeSpec E k = (E', r0, r2)) :
    Calls Try.prog 46 #[.pointer (some ⟨tb, 0, none⟩), .string k] w fun e w' => e = .returned (.tuple #[.int .i64 r0, .int .i64 r2]) ∧ Holds B tb (n + 1) E' w' ∧ Below B w w' := by
  obtain ⟨M, T, rfl, h2, rfl⟩ := h
  refine (take_ts h2 hn k).mono fun e w' ⟨T', M', s0, s1, hP, he, hS, hF⟩ => ⟨?_, ⟨M', T', hF.tb, hS, by rw [hP.ents, hp]⟩, hF.bel h2⟩
  have := hP.res
  rw [hp] at this
  injection this with a b
  rw [he, a, b]
theorem Holds.len (h : Holds B tb n E w) {m : Nat} (hm : E.length = m) : Calls Try.prog 45 #[.pointer (some ⟨tb, 0, none⟩)] w fun e w' => e = .returned (.int .i64 (m : Int)) ∧ w = w' := by
  obtain ⟨M, T, rfl, h2, rfl⟩ := h
  rw [← hm]
  exact len_ts h2
end
theorem tmodN (x b : Nat) : Int.tmod (x : Int) (b : Int) = ((x % b : Nat) : Int) := by rw [Int.tmod_eq_emod_of_nonneg (by omega)]; rfl

set_option maxRecDepth 100000 in
set_option maxHeartbeats 4000000 in
theorem treeMany_any (w : World) (a0 b0 : Int) : Calls Try.prog 9 #[.int .i64 a0, .int .i64 b0] w fun e w' => e = .returned (.bool true) ∧ Below w.heap.size w w' := by
  have hAc := fun W => amongT a0 500 W (by omega) (by omega)
  have hAe := fun W => amongT b0 3 W (by omega) (by omega)
  obtain ⟨c, hc⟩ : ∃ c : Nat, a0 % 500 = (c : Int) := ⟨(a0 % 500).toNat, by omega⟩
  obtain ⟨d, hd⟩ : ∃ d : Nat, b0 % 3 = (d : Int) := ⟨(b0 % 3).toNat, by omega⟩
  have hc5 : c < 500 := by omega
  have hd3 : d < 3 := by omega
  rw [hc] at hAc
  rw [hd] at hAe
  clear hc hd
  go_enter Try.func9, Try.ntmps9
  go_wp2_with (first
    | (go_at_call 40; refine (new_ts _).mono ?_; rintro e w1 ⟨M, T, rfl, hS, hE, b1⟩)
    | (go_at_call 41; refine (treeWorks_any _).mono ?_; rintro e w2 ⟨rfl, b2⟩)
    | (go_at_call 42; have h0 := hone; refine (hAe _).mono ?_; rintro e w4 ⟨rfl, rfl⟩)
    | (go_at_call 42; refine (hAc _).mono ?_; rintro e w4 ⟨rfl, rfl⟩; have hone := Lib.hid b2))
  have ha : (2 * (c : Int) + 1) = ((2 * c + 1 : Nat) : Int) := by omega
  have hb : (2 + (d : Int)) = ((2 + d : Nat) : Int) := by omega
  rw [ha, hb]
  clear ha hb
  obtain ⟨a, ha⟩ : ∃ a, a = 2 * c + 1 := ⟨_, rfl⟩
  obtain ⟨b, hb⟩ : ∃ b, b = 2 + d := ⟨_, rfl⟩
  rw [← ha, ← hb]
  have ha1 : a < 1000 := by omega
  have hb1 : ¬ ((b : Int) = 0) := by omega
  have hb3 : (0 : Int) < (b : Int) := by omega
  have hb6 : ¬ (b = 0) := by omega
  have hb7 : (b == 0) = false := beq_false_of_ne hb6
  have hb4 : (b : Int) < 5 := by omega
  have hb5 : ¬ ((b : Int) = -1) := by omega
  have hb2 : ((b : Int) == 0) = false := by simpa using (by omega : ¬ b = 0)
  obtain ⟨tb, htb⟩ : ∃ tb, M.tb = tb := ⟨_, rfl⟩
  rw [htb]
  have HH : Hid (Holds w.heap.size tb 0 [] w2) := Lib.hid ⟨M, T, htb, hS.below b2, hE⟩
  have HB : Hid (Below w.heap.size w w2) := Lib.hid (b1.trans (b2.mono b1.size))
  have HA := Lib.hid ha
  clear hS hE b1 b2 htb hone ha hb hAc hAe
  go_loopg [6] 4096 (fun gn i wr => ∃ (t : Nat) (E : List Ent), t ≤ 4096 ∧ i = .int .i64 t ∧ gn = 4096 - t ∧ Holds w.heap.size tb t E wr ∧ Fill (2 * c + 1) t E ∧ Below w.heap.size w wr)
  case atStart => exact ⟨0, [], Nat.zero_le _, rfl, rfl, HH.out, fill_nil _, HB.out⟩
  case round =>
    clear HH HB
    obtain ⟨t, E, ht, rfl, rfl, hH, hf, hB⟩ := hrel
    by_cases htl : t < 4096
    · obtain ⟨E', hp, hf'⟩ := hf.put hH.sorted htl
      have hv4 : t * (2 * c + 1) % 4096 < 4096 := Nat.mod_lt _ (by omega)
      obtain ⟨v, hv⟩ : ∃ v, v = t * (2 * c + 1) % 4096 := ⟨_, rfl⟩
      rw [← hv] at hp hv4
      rw [← HA.out] at hv
      have hz : t * a ≤ 4096 * 1000 := Nat.mul_le_mul (by omega) (by omega)
      have hcast : (t : Int) * (a : Int) = ((t * a : Nat) : Int) := by rw [Int.natCast_mul]
      have hw1 : IntKind.i64.wrap ((t : Int) * (a : Int)) = (t : Int) * (a : Int) := by
        rw [hcast, IntKind.wrap_i64]
        generalize t * a = z at hz
        omega
      have hr1 : Int.tmod ((t : Int) * (a : Int)) 4096 = (v : Int) := by
        rw [hcast, hv]
        exact tmodN (t * a) 4096
      have htl2 : (t : Int) < 4096 := by omega
      have HH := Lib.hid hH
      have HF := Lib.hid hf'
      have HB := Lib.hid hB
      have HP := Lib.hid hp
      have hbz := hB.size
      clear hH hf hf' hB hp hv hcast hz
      go_wp2_with (first
        | (go_at_call 43; refine hp5.mono ?_; rintro e w6 ⟨rfl, hH6, b6⟩)
        | (go_at_call 44; refine (number_any wr v (by omega)).mono ?_; rintro e w5 ⟨rfl, b5⟩; have hp5 := (HH.out.below b5).put (by omega) HP.out))
      go_roundg (4096 - (t + 1))
      case rel => exact ⟨t + 1, E', by omega, by go_num, rfl, hH6, HF.out, (HB.out.trans (b5.mono hbz)).trans b6⟩
      case measure => omega
    · have ht2 : t = 4096 := by omega
      subst ht2
      have hpx := hH.put (by omega) (hf.full hH.sorted)
      have hlen := hf.len
      have HR := Lib.hid (hf.rest hc5 b)
      have HB := Lib.hid hB
      clear hf hB hH
      go_wp2_with (first
        | (go_at_call 43; refine hpx.mono ?_; rintro e w6 ⟨rfl, hH6, b6⟩; have hLn := hH6.len hlen; rw [show ((4096 : Nat) : Int) = 4096 from rfl] at hLn)
        | (go_at_call 45; refine hLn.mono ?_; rintro e w7 ⟨rfl, rfl⟩))
      have HH := Lib.hid hH6
      have HB6 := Lib.hid (HB.out.trans b6)
      clear hH6 b6 HB hLn hpx hlen
      go_loopg [14, 15] 4096 (fun gn l i wr => ∃ (t left : Nat) (E : List Ent), t ≤ 4096 ∧ l = .int .i64 left ∧ i = .int .i64 t ∧ gn = 4096 - t ∧ Holds w.heap.size tb (4097 + t) E wr ∧ Rest b t left E ∧ Below w.heap.size w wr)
      case atStart => exact ⟨0, 0, E, Nat.zero_le _, rfl, rfl, rfl, HH.out, HR.out, HB6.out⟩
      case round =>
        clear HH HR HB6
        obtain ⟨t, left, E, ht, rfl, rfl, rfl, hH, hR, hB⟩ := hrel
        have hle := hR.le
        by_cases htl : t < 4096
        · have htl2 : (t : Int) < 4096 := by omega
          have hbz := hB.size
          by_cases hm : t % b = 0
          · obtain ⟨E', hp, hR'⟩ := hR.take hH.sorted htl hm
            have hr1 : Int.tmod (t : Int) (b : Int) = 0 := by rw [tmodN, hm]; rfl
            have HH := Lib.hid hH
            have HR := Lib.hid hR'
            have HB := Lib.hid hB
            have HP := Lib.hid hp
            clear hH hR hR' hB hp hm
            go_wp2_with (first
              | (go_at_call 46; refine hp5.mono ?_; rintro e w6 ⟨rfl, hH6, b6⟩)
              | (go_at_call 44; refine (number_any wr t (by omega)).mono ?_; rintro e w5 ⟨rfl, b5⟩; have hp5 := (HH.out.below b5).take (by omega) HP.out))
            go_roundg (4096 - (t + 1))
            case rel => exact ⟨t + 1, left, E', by omega, rfl, by go_num, rfl, hH6, HR.out, (HB.out.trans (b5.mono hbz)).trans b6⟩
            case measure => omega
          · have hr1 := tmodN t b
            have hR' := hR.skip htl hm
            have hz1 : ¬ (((t % b : Nat) : Int) = 0) := by omega
            have hz2 : ((((t % b : Nat) : Int)) != 0) = true := by rw [bne_iff_ne]; exact hz1
            generalize t % b = z at hr1 hz1 hz2
            have HH := Lib.hid (hH.mono (m := 4097 + (t + 1)) (by omega))
            have HR := Lib.hid hR'
            have HB := Lib.hid hB
            clear hH hR hR' hB hm
            go_wp2_with fail
            go_roundg (4096 - (t + 1))
            case rel => exact ⟨t + 1, left + 1, E, by omega, by go_num, by go_num, rfl, HH.out, HR.out, HB.out⟩
            case measure => omega
        · have ht2 : t = 4096 := by omega
          subst ht2
          have hlen : E.length = left := by rw [hR.len]; omega
          subst hlen
          have hL := hH.len rfl
          have hss := hH.sorted
          obtain ⟨M2, T2, f1, hS, f2⟩ := hH
          have hs1 := scan_ts hS (by omega) ⟨#[]⟩ ⟨#[]⟩ 4096 (by omega) (by omega)
          have hA1 := scanT_A (fr := ⟨#[]⟩) (tk := ⟨#[]⟩) (most := 4096) hS.ok
          have hLn := fun W hW => (Holds.below ⟨M2, T2, f1, hS, f2⟩ (w' := W) hW : Holds w.heap.size tb _ E W).len rfl
          rw [f1] at hs1
          rw [f2, show scanE E ⟨#[]⟩ ⟨#[]⟩ 4096 = E from scanE_nothing hss (by omega)] at hA1
          generalize scanT T2 ⟨#[]⟩ ⟨#[]⟩ 4096 = st1 at hs1 hA1
          obtain ⟨R, S1⟩ := st1
          dsimp only at hA1
          subst hA1
          have HLN := Lib.hid hLn
          have HR := Lib.hid hR
          have HSS := Lib.hid hss
          have HB := Lib.hid hB
          have hbz := hB.size
          clear hLn hR hss hB hS hL f2
          go_wp2_with (first
            | (go_at_call 47; refine hs1.mono ?_; rintro e w6 ⟨d8, e8, d9, e9, d10, e10, rfl, d8o, d9o, d10o, b6⟩; have hL6 := HLN.out w6 b6)
            | (go_at_call 45; refine hL6.mono ?_; rintro e w9 ⟨rfl, rfl⟩))
          have HD := Lib.hid d8o
          have HV := Lib.hid d9o
          have HB6 := Lib.hid (HB.out.trans (b6.mono hbz))
          have hz6 := HB6.out.size
          have HB60 := Lib.hid b6
          clear d8o d9o d10o b6 hL6 hs1 HB HLN
          go_loopg [22] R.length (fun gn i wy => ∃ t : Nat, t ≤ R.length ∧ i = .int .i64 t ∧ gn = R.length - t ∧ Below w6.heap.size w6 wy)
          case atStart => exact ⟨0, Nat.zero_le _, rfl, rfl, Below.refl _ _⟩
          case round =>
            obtain ⟨t, ht, rfl, rfl, b7⟩ := hrel
            by_cases htl : t < R.length
            · obtain ⟨v, hv, he, hvb⟩ := HR.out.at htl
              have heg : R[t] = (numB v, ((v : Nat) : Int)) := by rw [← he]; simp [List.getD, htl]
              obtain ⟨g, e1, _, hg, ck⟩ := own_rd HD.out t (.string (numB v)) (by simp [htl, heg])
              obtain ⟨g', e2, _, hg', cv⟩ := own_rd HV.out t (.int .i64 ((v : Nat) : Int)) (by simp [htl, heg])
              have ck := (b7.cell (p := ⟨g, _, none⟩) hg).trans ck
              have cv := (b7.cell (p := ⟨g', _, none⟩) hg').trans cv
              have hgr : g < wr.drew.heap.size := Nat.lt_of_lt_of_le hg b7.size
              have hgr' : g' < wr.drew.heap.size := Nat.lt_of_lt_of_le hg' b7.size
              have hnum := number_any wr.drew v (by omega)
              have hr1 := tmodN v b
              have hz1 : ¬ (((v % b : Nat) : Int) = 0) := by omega
              have hz2 : ((((v % b : Nat) : Int)) == 0) = false := beq_false_of_ne hz1
              have hzb : v % b < 4096 := Nat.lt_of_le_of_lt (Nat.mod_le _ _) hv
              have hzw : IntKind.i64.wrap (Int.tmod (v : Int) (b : Int)) = ((v % b : Nat) : Int) := by rw [hr1, IntKind.wrap_i64]; omega
              have hzx : IntKind.i64.wrap ((v % b : Nat) : Int) = ((v % b : Nat) : Int) := by rw [IntKind.wrap_i64]; omega
              have hvI : (v : Int) < 4096 := by omega
              have hv0 : (0 : Int) ≤ (v : Int) := by omega
              have htI : (t : Int) < (R.length : Int) := by omega
              have ht0 : (0 : Int) ≤ (t : Int) := by omega
              have HB7 := Lib.hid b7
              by_cases h0 : t = 0
              · have hg0 : ¬ ((0 : Int) < (t : Int)) := by omega
                have hg1 : decide ((0 : Int) < (t : Int)) = false := decide_eq_false hg0
                have hg2 : ¬ (0 < t) := by omega
                have hg3 : decide (0 < t) = false := decide_eq_false hg2
                clear he heg b7 ht h0
                have hz3 : ¬ ((v : Int) % (b : Int) = 0) := by rw [← Int.natCast_emod]; exact hz1
                have hz7 : (Int.tmod (v : Int) (b : Int) == 0) = false := beq_false_of_ne (by rw [tmodN]; exact hz1)
                have hz4 : ¬ (b ∣ v) := fun h => hvb (Nat.mod_eq_zero_of_dvd h)
                have hz5 : ((v : Int) % (b : Int) == 0) = false := beq_false_of_ne hz3
                have hz6 : ¬ ((b : Int) ∣ (v : Int)) := fun h => hz4 (Int.natCast_dvd_natCast.1 h)
                clear hzw hzx hzb hz2 hr1
                generalize numB v = kv at ck hnum
                subst e1 e2
                go_upto_region 30 with fail
                refine wp_region_noPanic ?_
                refine wp_region_held_drew (S := fun w' => w'.cell? ⟨g, t, none⟩ = some (.string kv) ∧ w'.cell? ⟨g', t, none⟩ = some (.int .i64 (v : Int))) (by kernel_rfl) ⟨ck, cv⟩ (fun hHeld => ?_)
                (refine wpAnyH_take (i := 0) (v := ?_) rfl (by kernel_rfl) (by kernel_rfl) (by kernel_rfl) (fun _ _ _ h => h) (Or.inl ⟨by kernel_rfl, ?_⟩) (by assumption) ?_; rotate_left; (focus (intro w hSw; (try dsimp only at hSw); go_simp; (try with_reducible rfl))); try simp only [List.getElem_toArray, List.getElem_cons_zero, Act.put, List.setIfInBounds_toArray, List.set_cons_zero, List.set_cons_succ])
                (refine wpAnyH_take (i := 1) (v := ?_) rfl (by kernel_rfl) (by kernel_rfl) (by kernel_rfl) (fun _ _ _ h => h) (Or.inl ⟨by kernel_rfl, ?_⟩) (by assumption) ?_; rotate_left; (focus (intro w hSw; (try dsimp only at hSw); go_simp; (try with_reducible rfl))); try simp only [List.getElem_toArray, List.getElem_cons_succ, List.getElem_cons_zero, Act.put, List.setIfInBounds_toArray, List.set_cons_zero, List.set_cons_succ])
                (refine wpAnyH_take (i := 2) (v := ?_) rfl (by kernel_rfl) (by kernel_rfl) (by kernel_rfl) (fun _ _ _ h => h) (Or.inl ⟨by kernel_rfl, ?_⟩) (by assumption) ?_; rotate_left; (focus (intro w hSw; (try dsimp only at hSw); go_simp; (try with_reducible rfl))); try simp only [List.getElem_toArray, List.getElem_cons_succ, List.getElem_cons_zero, Act.put, List.setIfInBounds_toArray, List.set_cons_zero, List.set_cons_succ])
                (refine wpAnyH_take (i := 3) (v := ?_) rfl (by kernel_rfl) (by kernel_rfl) (by kernel_rfl) (fun _ _ _ h => h) (Or.inl ⟨by kernel_rfl, ?_⟩) (by assumption) ?_; rotate_left; (focus (intro w hSw; (try dsimp only at hSw); go_simp; (try with_reducible rfl))); try simp only [List.getElem_toArray, List.getElem_cons_succ, List.getElem_cons_zero, Act.put, List.setIfInBounds_toArray, List.set_cons_zero, List.set_cons_succ])
                (refine wpAnyH_take (i := 5) (v := ?_) rfl (by kernel_rfl) (by kernel_rfl) (by kernel_rfl) (fun _ _ _ h => h) (Or.inl ⟨by kernel_rfl, ?_⟩) (by assumption) ?_; rotate_left; (focus (intro w hSw; (try dsimp only at hSw); go_simp; (try with_reducible rfl))); try simp only [List.getElem_toArray, List.getElem_cons_succ, List.getElem_cons_zero, Act.put, List.setIfInBounds_toArray, List.set_cons_zero, List.set_cons_succ])
                (refine wpAnyH_take (i := 6) (v := ?_) rfl (by kernel_rfl) (by kernel_rfl) (by kernel_rfl) (fun _ _ _ h => h) (Or.inl ⟨by kernel_rfl, ?_⟩) (by assumption) ?_; rotate_left; (focus (intro w hSw; (try dsimp only at hSw); go_simp; (try with_reducible rfl))); try simp only [List.getElem_toArray, List.getElem_cons_succ, List.getElem_cons_zero, Act.put, List.setIfInBounds_toArray, List.set_cons_zero, List.set_cons_succ])
                (refine wpAnyH_take (i := 7) (v := ?_) rfl (by kernel_rfl) (by kernel_rfl) (by kernel_rfl) (fun _ _ _ h => h) (Or.inl ⟨by kernel_rfl, ?_⟩) (by assumption) ?_; rotate_left; (focus (intro w hSw; (try dsimp only at hSw); go_simp; (try with_reducible rfl))); try simp only [List.getElem_toArray, List.getElem_cons_succ, List.getElem_cons_zero, Act.put, List.setIfInBounds_toArray, List.set_cons_zero, List.set_cons_succ])
                (refine wpAnyH_take (i := 8) (v := ?_) rfl (by kernel_rfl) (by kernel_rfl) (by kernel_rfl) (fun _ _ _ h => h) (Or.inl ⟨by kernel_rfl, ?_⟩) (by assumption) ?_; rotate_left; (focus (intro w hSw; (try dsimp only at hSw); go_simp; (try with_reducible rfl))); try simp only [List.getElem_toArray, List.getElem_cons_succ, List.getElem_cons_zero, Act.put, List.setIfInBounds_toArray, List.set_cons_zero, List.set_cons_succ])
                refine wpAnyH_ready (rs := [4]) (by kernel_rfl) (by simp) ?_
                refine AllReadyH.cons rfl (fun K hK => ?_) AllReadyH.nil
                go_simp
                go_at_call 44; refine hnum.mono ?_; rintro e w8 ⟨rfl, b8⟩; have s0 := (b8.cell (p := ⟨g, _, none⟩) hgr).trans ck; have s1 := (b8.cell (p := ⟨g', _, none⟩) hgr').trans cv
                go_wp2_with fail
                refine hK.out _ _ ⟨s0, s1⟩ (fun hHeld => ?_)
                clear hK K
                try simp only [List.getElem_toArray, List.getElem_cons_succ, List.getElem_cons_zero, Act.put, List.setIfInBounds_toArray, List.set_cons_zero, List.set_cons_succ]
                (refine wpAnyH_take (i := 9) (v := ?_) rfl (by kernel_rfl) (by kernel_rfl) (by kernel_rfl) (fun _ _ _ h => h) (Or.inl ⟨by kernel_rfl, ?_⟩) (by assumption) ?_; rotate_left; (focus (intro w hSw; (try dsimp only at hSw); go_simp; (try with_reducible rfl))); try simp only [List.getElem_toArray, List.getElem_cons_succ, List.getElem_cons_zero, Act.put, List.setIfInBounds_toArray, List.set_cons_zero, List.set_cons_succ])
                (refine wpAnyH_take (i := 10) (v := ?_) rfl (by kernel_rfl) (by kernel_rfl) (by kernel_rfl) (fun _ _ _ h => h) (Or.inl ⟨by kernel_rfl, ?_⟩) (by assumption) ?_; rotate_left; (focus (intro w hSw; (try dsimp only at hSw); go_simp; (try with_reducible rfl))); try simp only [List.getElem_toArray, List.getElem_cons_succ, List.getElem_cons_zero, Act.put, List.setIfInBounds_toArray, List.set_cons_zero, List.set_cons_succ])
                (refine wpAnyH_take (i := 11) (v := ?_) rfl (by kernel_rfl) (by kernel_rfl) (by kernel_rfl) (fun _ _ _ h => h) (Or.inl ⟨by kernel_rfl, ?_⟩) (by assumption) ?_; rotate_left; (focus (intro w hSw; (try dsimp only at hSw); go_simp; (try with_reducible rfl))); try simp only [List.getElem_toArray, List.getElem_cons_succ, List.getElem_cons_zero, Act.put, List.setIfInBounds_toArray, List.set_cons_zero, List.set_cons_succ])
                (refine wpAnyH_take (i := 12) (v := ?_) rfl (by kernel_rfl) (by kernel_rfl) (by kernel_rfl) (fun _ _ _ h => h) (Or.inl ⟨by kernel_rfl, ?_⟩) (by assumption) ?_; rotate_left; (focus (intro w hSw; (try dsimp only at hSw); go_simp; (try with_reducible rfl))); try simp only [List.getElem_toArray, List.getElem_cons_succ, List.getElem_cons_zero, Act.put, List.setIfInBounds_toArray, List.set_cons_zero, List.set_cons_succ])
                (refine wpAnyH_take (i := 13) (v := ?_) rfl (by kernel_rfl) (by kernel_rfl) (by kernel_rfl) (fun _ _ _ h => h) (Or.inl ⟨by kernel_rfl, ?_⟩) (by assumption) ?_; rotate_left; (focus (intro w hSw; (try dsimp only at hSw); go_simp; (try with_reducible rfl))); try simp only [List.getElem_toArray, List.getElem_cons_succ, List.getElem_cons_zero, Act.put, List.setIfInBounds_toArray, List.set_cons_zero, List.set_cons_succ])
                (refine wpAnyH_take (i := 14) (v := undef) rfl (by kernel_rfl) (by kernel_rfl) (by kernel_rfl) (fun _ _ _ h => h) (Or.inr ⟨by kernel_rfl, rfl⟩) (by assumption) ?_; try simp only [List.getElem_toArray, List.getElem_cons_succ, List.getElem_cons_zero, Act.put, List.setIfInBounds_toArray, List.set_cons_zero, List.set_cons_succ])
                (refine wpAnyH_take (i := 15) (v := undef) rfl (by kernel_rfl) (by kernel_rfl) (by kernel_rfl) (fun _ _ _ h => h) (Or.inr ⟨by kernel_rfl, rfl⟩) (by assumption) ?_; try simp only [List.getElem_toArray, List.getElem_cons_succ, List.getElem_cons_zero, Act.put, List.setIfInBounds_toArray, List.set_cons_zero, List.set_cons_succ])
                (refine wpAnyH_take (i := 16) (v := undef) rfl (by kernel_rfl) (by kernel_rfl) (by kernel_rfl) (fun _ _ _ h => h) (Or.inr ⟨by kernel_rfl, rfl⟩) (by assumption) ?_; try simp only [List.getElem_toArray, List.getElem_cons_succ, List.getElem_cons_zero, Act.put, List.setIfInBounds_toArray, List.set_cons_zero, List.set_cons_succ])
                (refine wpAnyH_take (i := 17) (v := undef) rfl (by kernel_rfl) (by kernel_rfl) (by kernel_rfl) (fun _ _ _ h => h) (Or.inr ⟨by kernel_rfl, rfl⟩) (by assumption) ?_; try simp only [List.getElem_toArray, List.getElem_cons_succ, List.getElem_cons_zero, Act.put, List.setIfInBounds_toArray, List.set_cons_zero, List.set_cons_succ])
                (refine wpAnyH_take (i := 18) (v := undef) rfl (by kernel_rfl) (by kernel_rfl) (by kernel_rfl) (fun _ _ _ h => h) (Or.inr ⟨by kernel_rfl, rfl⟩) (by assumption) ?_; try simp only [List.getElem_toArray, List.getElem_cons_succ, List.getElem_cons_zero, Act.put, List.setIfInBounds_toArray, List.set_cons_zero, List.set_cons_succ])
                (refine wpAnyH_take (i := 19) (v := undef) rfl (by kernel_rfl) (by kernel_rfl) (by kernel_rfl) (fun _ _ _ h => h) (Or.inr ⟨by kernel_rfl, rfl⟩) (by assumption) ?_; try simp only [List.getElem_toArray, List.getElem_cons_succ, List.getElem_cons_zero, Act.put, List.setIfInBounds_toArray, List.set_cons_zero, List.set_cons_succ])
                (refine wpAnyH_take (i := 20) (v := undef) rfl (by kernel_rfl) (by kernel_rfl) (by kernel_rfl) (fun _ _ _ h => h) (Or.inr ⟨by kernel_rfl, rfl⟩) (by assumption) ?_; try simp only [List.getElem_toArray, List.getElem_cons_succ, List.getElem_cons_zero, Act.put, List.setIfInBounds_toArray, List.set_cons_zero, List.set_cons_succ])
                (refine wpAnyH_take (i := 21) (v := undef) rfl (by kernel_rfl) (by kernel_rfl) (by kernel_rfl) (fun _ _ _ h => h) (Or.inr ⟨by kernel_rfl, rfl⟩) (by assumption) ?_; try simp only [List.getElem_toArray, List.getElem_cons_succ, List.getElem_cons_zero, Act.put, List.setIfInBounds_toArray, List.set_cons_zero, List.set_cons_succ])
                (refine wpAnyH_take (i := 22) (v := undef) rfl (by kernel_rfl) (by kernel_rfl) (by kernel_rfl) (fun _ _ _ h => h) (Or.inr ⟨by kernel_rfl, rfl⟩) (by assumption) ?_; try simp only [List.getElem_toArray, List.getElem_cons_succ, List.getElem_cons_zero, Act.put, List.setIfInBounds_toArray, List.set_cons_zero, List.set_cons_succ])
                (refine wpAnyH_take (i := 23) (v := undef) rfl (by kernel_rfl) (by kernel_rfl) (by kernel_rfl) (fun _ _ _ h => h) (Or.inr ⟨by kernel_rfl, rfl⟩) (by assumption) ?_; try simp only [List.getElem_toArray, List.getElem_cons_succ, List.getElem_cons_zero, Act.put, List.setIfInBounds_toArray, List.set_cons_zero, List.set_cons_succ])
                (refine wpAnyH_take (i := 24) (v := ?_) rfl (by kernel_rfl) (by kernel_rfl) (by kernel_rfl) (fun _ _ _ h => h) (Or.inl ⟨by kernel_rfl, ?_⟩) (by assumption) ?_; rotate_left; (focus (intro w hSw; (try dsimp only at hSw); go_simp; (try with_reducible rfl))); try simp only [List.getElem_toArray, List.getElem_cons_succ, List.getElem_cons_zero, Act.put, List.setIfInBounds_toArray, List.set_cons_zero, List.set_cons_succ])
                (refine wpAnyH_take (i := 25) (v := ?_) rfl (by kernel_rfl) (by kernel_rfl) (by kernel_rfl) (fun _ _ _ h => h) (Or.inl ⟨by kernel_rfl, ?_⟩) (by assumption) ?_; rotate_left; (focus (intro w hSw; (try dsimp only at hSw); go_simp; (try with_reducible rfl))); try simp only [List.getElem_toArray, List.getElem_cons_succ, List.getElem_cons_zero, Act.put, List.setIfInBounds_toArray, List.set_cons_zero, List.set_cons_succ])
                (refine wpAnyH_take (i := 26) (v := ?_) rfl (by kernel_rfl) (by kernel_rfl) (by kernel_rfl) (fun _ _ _ h => h) (Or.inl ⟨by kernel_rfl, ?_⟩) (by assumption) ?_; rotate_left; (focus (intro w hSw; (try dsimp only at hSw); go_simp; (try with_reducible rfl))); try simp only [List.getElem_toArray, List.getElem_cons_succ, List.getElem_cons_zero, Act.put, List.setIfInBounds_toArray, List.set_cons_zero, List.set_cons_succ])
                (refine wpAnyH_take (i := 27) (v := ?_) rfl (by kernel_rfl) (by kernel_rfl) (by kernel_rfl) (fun _ _ _ h => h) (Or.inl ⟨by kernel_rfl, ?_⟩) (by assumption) ?_; rotate_left; (focus (intro w hSw; (try dsimp only at hSw); go_simp; (try with_reducible rfl))); try simp only [List.getElem_toArray, List.getElem_cons_succ, List.getElem_cons_zero, Act.put, List.setIfInBounds_toArray, List.set_cons_zero, List.set_cons_succ])
                (refine wpAnyH_take (i := 28) (v := ?_) rfl (by kernel_rfl) (by kernel_rfl) (by kernel_rfl) (fun _ _ _ h => h) (Or.inl ⟨by kernel_rfl, ?_⟩) (by assumption) ?_; rotate_left; (focus (intro w hSw; (try dsimp only at hSw); go_simp; (try with_reducible rfl))); try simp only [List.getElem_toArray, List.getElem_cons_succ, List.getElem_cons_zero, Act.put, List.setIfInBounds_toArray, List.set_cons_zero, List.set_cons_succ])
                (refine wpAnyH_take (i := 29) (v := ?_) rfl (by kernel_rfl) (by kernel_rfl) (by kernel_rfl) (fun _ _ _ h => h) (Or.inl ⟨by kernel_rfl, ?_⟩) (by assumption) ?_; rotate_left; (focus (intro w hSw; (try dsimp only at hSw); go_simp; (try with_reducible rfl))); try simp only [List.getElem_toArray, List.getElem_cons_succ, List.getElem_cons_zero, Act.put, List.setIfInBounds_toArray, List.set_cons_zero, List.set_cons_succ])
                (refine wpAnyH_take (i := 30) (v := ?_) rfl (by kernel_rfl) (by kernel_rfl) (by kernel_rfl) (fun _ _ _ h => h) (Or.inl ⟨by kernel_rfl, ?_⟩) (by assumption) ?_; rotate_left; (focus (intro w hSw; (try dsimp only at hSw); go_simp; (try with_reducible rfl))); try simp only [List.getElem_toArray, List.getElem_cons_succ, List.getElem_cons_zero, Act.put, List.setIfInBounds_toArray, List.set_cons_zero, List.set_cons_succ])
                (refine wpAnyH_take (i := 31) (v := ?_) rfl (by kernel_rfl) (by kernel_rfl) (by kernel_rfl) (fun _ _ _ h => h) (Or.inl ⟨by kernel_rfl, ?_⟩) (by assumption) ?_; rotate_left; (focus (intro w hSw; (try dsimp only at hSw); go_simp; (try with_reducible rfl))); try simp only [List.getElem_toArray, List.getElem_cons_succ, List.getElem_cons_zero, Act.put, List.setIfInBounds_toArray, List.set_cons_zero, List.set_cons_succ])
                (refine wpAnyH_take (i := 32) (v := ?_) rfl (by kernel_rfl) (by kernel_rfl) (by kernel_rfl) (fun _ _ _ h => h) (Or.inl ⟨by kernel_rfl, ?_⟩) (by assumption) ?_; rotate_left; (focus (intro w hSw; (try dsimp only at hSw); go_simp; (try with_reducible rfl))); try simp only [List.getElem_toArray, List.getElem_cons_succ, List.getElem_cons_zero, Act.put, List.setIfInBounds_toArray, List.set_cons_zero, List.set_cons_succ])
                (refine wpAnyH_take (i := 33) (v := ?_) rfl (by kernel_rfl) (by kernel_rfl) (by kernel_rfl) (fun _ _ _ h => h) (Or.inl ⟨by kernel_rfl, ?_⟩) (by assumption) ?_; rotate_left; (focus (intro w hSw; (try dsimp only at hSw); go_simp; (try with_reducible rfl))); try simp only [List.getElem_toArray, List.getElem_cons_succ, List.getElem_cons_zero, Act.put, List.setIfInBounds_toArray, List.set_cons_zero, List.set_cons_succ])
                (refine wpAnyH_take (i := 34) (v := ?_) rfl (by kernel_rfl) (by kernel_rfl) (by kernel_rfl) (fun _ _ _ h => h) (Or.inl ⟨by kernel_rfl, ?_⟩) (by assumption) ?_; rotate_left; (focus (intro w hSw; (try dsimp only at hSw); go_simp; (try with_reducible rfl))); try simp only [List.getElem_toArray, List.getElem_cons_succ, List.getElem_cons_zero, Act.put, List.setIfInBounds_toArray, List.set_cons_zero, List.set_cons_succ])
                refine wpAnyH_done (by kernel_rfl) ?_ _
                refine NoPanic.normal ?_
                go_wp2_with fail
                go_roundg (R.length - (t + 1))
                case rel => exact ⟨t + 1, by omega, by go_num, rfl, (HB7.out.drew).trans (b8.mono HB7.out.size)⟩
                case measure => omega
              · have hg0 : (0 : Int) < (t : Int) := by omega
                have hg2 : 0 < t := by omega
                have hwr : IntKind.i64.wrap ((t : Int) - 1) = ((t - 1 : Nat) : Int) := by rw [IntKind.wrap_i64]; omega
                have ht1I : ((t - 1 : Nat) : Int) < (R.length : Int) := by omega
                have ht1z : (0 : Int) ≤ ((t - 1 : Nat) : Int) := by omega
                have hlt := List.pairwise_iff_getElem.1 HSS.out (t - 1) t (by omega) htl (by omega)
                obtain ⟨g3, e3, _, hg3, cp⟩ := own_rd HD.out (t - 1) (.string (R[t - 1]).1) (by simp [show t - 1 < R.length from by omega])
                rw [e1] at e3
                simp only [Option.some.injEq, Addr.mk.injEq, and_true] at e3
                subst e3
                replace cp := (b7.cell (p := ⟨g, _, none⟩) hg).trans cp
                rw [heg] at hlt
                generalize (R[t - 1]).1 = kp at cp hlt
                dsimp only at hlt
                clear he heg b7 ht h0
                have hz3 : ¬ ((v : Int) % (b : Int) = 0) := by rw [← Int.natCast_emod]; exact hz1
                have hz7 : (Int.tmod (v : Int) (b : Int) == 0) = false := beq_false_of_ne (by rw [tmodN]; exact hz1)
                have hz4 : ¬ (b ∣ v) := fun h => hvb (Nat.mod_eq_zero_of_dvd h)
                have hz5 : ((v : Int) % (b : Int) == 0) = false := beq_false_of_ne hz3
                have hz6 : ¬ ((b : Int) ∣ (v : Int)) := fun h => hz4 (Int.natCast_dvd_natCast.1 h)
                clear hzw hzx hzb hz2 hr1
                generalize numB v = kv at ck hnum hlt
                have hq1 : Op.bytesLess kp.toList kv.toList = true := hlt
                have hq2 : Op.bytesLess kv.toList kp.toList = false := bl_asymm hlt
                have hq3 : ¬ kp.toList = kv.toList := fun e => bl_ne hlt (ba_ext e)
                clear hlt
                generalize t - 1 = t1 at hwr ht1I ht1z cp
                subst e1 e2
                go_upto_region 30 with fail
                refine wp_region_noPanic ?_
                refine wp_region_held_drew (S := fun w' => w'.cell? ⟨g, t, none⟩ = some (.string kv) ∧ w'.cell? ⟨g', t, none⟩ = some (.int .i64 (v : Int)) ∧ w'.cell? ⟨g, t1, none⟩ = some (.string kp)) (by kernel_rfl) ⟨ck, cv, cp⟩ (fun hHeld => ?_)
                (refine wpAnyH_take (i := 0) (v := ?_) rfl (by kernel_rfl) (by kernel_rfl) (by kernel_rfl) (fun _ _ _ h => h) (Or.inl ⟨by kernel_rfl, ?_⟩) (by assumption) ?_; rotate_left; (focus (intro w hSw; (try dsimp only at hSw); go_simp; (try with_reducible rfl))); try simp only [List.getElem_toArray, List.getElem_cons_zero, Act.put, List.setIfInBounds_toArray, List.set_cons_zero, List.set_cons_succ])
                (refine wpAnyH_take (i := 1) (v := ?_) rfl (by kernel_rfl) (by kernel_rfl) (by kernel_rfl) (fun _ _ _ h => h) (Or.inl ⟨by kernel_rfl, ?_⟩) (by assumption) ?_; rotate_left; (focus (intro w hSw; (try dsimp only at hSw); go_simp; (try with_reducible rfl))); try simp only [List.getElem_toArray, List.getElem_cons_succ, List.getElem_cons_zero, Act.put, List.setIfInBounds_toArray, List.set_cons_zero, List.set_cons_succ])
                (refine wpAnyH_take (i := 2) (v := ?_) rfl (by kernel_rfl) (by kernel_rfl) (by kernel_rfl) (fun _ _ _ h => h) (Or.inl ⟨by kernel_rfl, ?_⟩) (by assumption) ?_; rotate_left; (focus (intro w hSw; (try dsimp only at hSw); go_simp; (try with_reducible rfl))); try simp only [List.getElem_toArray, List.getElem_cons_succ, List.getElem_cons_zero, Act.put, List.setIfInBounds_toArray, List.set_cons_zero, List.set_cons_succ])
                (refine wpAnyH_take (i := 3) (v := ?_) rfl (by kernel_rfl) (by kernel_rfl) (by kernel_rfl) (fun _ _ _ h => h) (Or.inl ⟨by kernel_rfl, ?_⟩) (by assumption) ?_; rotate_left; (focus (intro w hSw; (try dsimp only at hSw); go_simp; (try with_reducible rfl))); try simp only [List.getElem_toArray, List.getElem_cons_succ, List.getElem_cons_zero, Act.put, List.setIfInBounds_toArray, List.set_cons_zero, List.set_cons_succ])
                (refine wpAnyH_take (i := 5) (v := ?_) rfl (by kernel_rfl) (by kernel_rfl) (by kernel_rfl) (fun _ _ _ h => h) (Or.inl ⟨by kernel_rfl, ?_⟩) (by assumption) ?_; rotate_left; (focus (intro w hSw; (try dsimp only at hSw); go_simp; (try with_reducible rfl))); try simp only [List.getElem_toArray, List.getElem_cons_succ, List.getElem_cons_zero, Act.put, List.setIfInBounds_toArray, List.set_cons_zero, List.set_cons_succ])
                (refine wpAnyH_take (i := 6) (v := ?_) rfl (by kernel_rfl) (by kernel_rfl) (by kernel_rfl) (fun _ _ _ h => h) (Or.inl ⟨by kernel_rfl, ?_⟩) (by assumption) ?_; rotate_left; (focus (intro w hSw; (try dsimp only at hSw); go_simp; (try with_reducible rfl))); try simp only [List.getElem_toArray, List.getElem_cons_succ, List.getElem_cons_zero, Act.put, List.setIfInBounds_toArray, List.set_cons_zero, List.set_cons_succ])
                (refine wpAnyH_take (i := 7) (v := ?_) rfl (by kernel_rfl) (by kernel_rfl) (by kernel_rfl) (fun _ _ _ h => h) (Or.inl ⟨by kernel_rfl, ?_⟩) (by assumption) ?_; rotate_left; (focus (intro w hSw; (try dsimp only at hSw); go_simp; (try with_reducible rfl))); try simp only [List.getElem_toArray, List.getElem_cons_succ, List.getElem_cons_zero, Act.put, List.setIfInBounds_toArray, List.set_cons_zero, List.set_cons_succ])
                (refine wpAnyH_take (i := 8) (v := ?_) rfl (by kernel_rfl) (by kernel_rfl) (by kernel_rfl) (fun _ _ _ h => h) (Or.inl ⟨by kernel_rfl, ?_⟩) (by assumption) ?_; rotate_left; (focus (intro w hSw; (try dsimp only at hSw); go_simp; (try with_reducible rfl))); try simp only [List.getElem_toArray, List.getElem_cons_succ, List.getElem_cons_zero, Act.put, List.setIfInBounds_toArray, List.set_cons_zero, List.set_cons_succ])
                refine wpAnyH_ready (rs := [4]) (by kernel_rfl) (by simp) ?_
                refine AllReadyH.cons rfl (fun K hK => ?_) AllReadyH.nil
                go_simp
                go_at_call 44; refine hnum.mono ?_; rintro e w8 ⟨rfl, b8⟩; have s0 := (b8.cell (p := ⟨g, _, none⟩) hgr).trans ck; have s1 := (b8.cell (p := ⟨g', _, none⟩) hgr').trans cv; have s2 := (b8.cell (p := ⟨g, _, none⟩) hgr).trans cp
                go_wp2_with fail
                refine hK.out _ _ ⟨s0, s1, s2⟩ (fun hHeld => ?_)
                clear hK K
                try simp only [List.getElem_toArray, List.getElem_cons_succ, List.getElem_cons_zero, Act.put, List.setIfInBounds_toArray, List.set_cons_zero, List.set_cons_succ]
                (refine wpAnyH_take (i := 9) (v := ?_) rfl (by kernel_rfl) (by kernel_rfl) (by kernel_rfl) (fun _ _ _ h => h) (Or.inl ⟨by kernel_rfl, ?_⟩) (by assumption) ?_; rotate_left; (focus (intro w hSw; (try dsimp only at hSw); go_simp; (try with_reducible rfl))); try simp only [List.getElem_toArray, List.getElem_cons_succ, List.getElem_cons_zero, Act.put, List.setIfInBounds_toArray, List.set_cons_zero, List.set_cons_succ])
                (refine wpAnyH_take (i := 10) (v := ?_) rfl (by kernel_rfl) (by kernel_rfl) (by kernel_rfl) (fun _ _ _ h => h) (Or.inl ⟨by kernel_rfl, ?_⟩) (by assumption) ?_; rotate_left; (focus (intro w hSw; (try dsimp only at hSw); go_simp; (try with_reducible rfl))); try simp only [List.getElem_toArray, List.getElem_cons_succ, List.getElem_cons_zero, Act.put, List.setIfInBounds_toArray, List.set_cons_zero, List.set_cons_succ])
                (refine wpAnyH_take (i := 11) (v := ?_) rfl (by kernel_rfl) (by kernel_rfl) (by kernel_rfl) (fun _ _ _ h => h) (Or.inl ⟨by kernel_rfl, ?_⟩) (by assumption) ?_; rotate_left; (focus (intro w hSw; (try dsimp only at hSw); go_simp; (try with_reducible rfl))); try simp only [List.getElem_toArray, List.getElem_cons_succ, List.getElem_cons_zero, Act.put, List.setIfInBounds_toArray, List.set_cons_zero, List.set_cons_succ])
                (refine wpAnyH_take (i := 12) (v := ?_) rfl (by kernel_rfl) (by kernel_rfl) (by kernel_rfl) (fun _ _ _ h => h) (Or.inl ⟨by kernel_rfl, ?_⟩) (by assumption) ?_; rotate_left; (focus (intro w hSw; (try dsimp only at hSw); go_simp; (try with_reducible rfl))); try simp only [List.getElem_toArray, List.getElem_cons_succ, List.getElem_cons_zero, Act.put, List.setIfInBounds_toArray, List.set_cons_zero, List.set_cons_succ])
                (refine wpAnyH_take (i := 13) (v := ?_) rfl (by kernel_rfl) (by kernel_rfl) (by kernel_rfl) (fun _ _ _ h => h) (Or.inl ⟨by kernel_rfl, ?_⟩) (by assumption) ?_; rotate_left; (focus (intro w hSw; (try dsimp only at hSw); go_simp; (try with_reducible rfl))); try simp only [List.getElem_toArray, List.getElem_cons_succ, List.getElem_cons_zero, Act.put, List.setIfInBounds_toArray, List.set_cons_zero, List.set_cons_succ])
                (refine wpAnyH_take (i := 14) (v := ?_) rfl (by kernel_rfl) (by kernel_rfl) (by kernel_rfl) (fun _ _ _ h => h) (Or.inl ⟨by kernel_rfl, ?_⟩) (by assumption) ?_; rotate_left; (focus (intro w hSw; (try dsimp only at hSw); go_simp; (try with_reducible rfl))); try simp only [List.getElem_toArray, List.getElem_cons_succ, List.getElem_cons_zero, Act.put, List.setIfInBounds_toArray, List.set_cons_zero, List.set_cons_succ])
                (refine wpAnyH_take (i := 15) (v := ?_) rfl (by kernel_rfl) (by kernel_rfl) (by kernel_rfl) (fun _ _ _ h => h) (Or.inl ⟨by kernel_rfl, ?_⟩) (by assumption) ?_; rotate_left; (focus (intro w hSw; (try dsimp only at hSw); go_simp; (try with_reducible rfl))); try simp only [List.getElem_toArray, List.getElem_cons_succ, List.getElem_cons_zero, Act.put, List.setIfInBounds_toArray, List.set_cons_zero, List.set_cons_succ])
                (refine wpAnyH_take (i := 16) (v := ?_) rfl (by kernel_rfl) (by kernel_rfl) (by kernel_rfl) (fun _ _ _ h => h) (Or.inl ⟨by kernel_rfl, ?_⟩) (by assumption) ?_; rotate_left; (focus (intro w hSw; (try dsimp only at hSw); go_simp; (try with_reducible rfl))); try simp only [List.getElem_toArray, List.getElem_cons_succ, List.getElem_cons_zero, Act.put, List.setIfInBounds_toArray, List.set_cons_zero, List.set_cons_succ])
                (refine wpAnyH_take (i := 17) (v := ?_) rfl (by kernel_rfl) (by kernel_rfl) (by kernel_rfl) (fun _ _ _ h => h) (Or.inl ⟨by kernel_rfl, ?_⟩) (by assumption) ?_; rotate_left; (focus (intro w hSw; (try dsimp only at hSw); go_simp; (try with_reducible rfl))); try simp only [List.getElem_toArray, List.getElem_cons_succ, List.getElem_cons_zero, Act.put, List.setIfInBounds_toArray, List.set_cons_zero, List.set_cons_succ])
                (refine wpAnyH_take (i := 18) (v := ?_) rfl (by kernel_rfl) (by kernel_rfl) (by kernel_rfl) (fun _ _ _ h => h) (Or.inl ⟨by kernel_rfl, ?_⟩) (by assumption) ?_; rotate_left; (focus (intro w hSw; (try dsimp only at hSw); go_simp; (try with_reducible rfl))); try simp only [List.getElem_toArray, List.getElem_cons_succ, List.getElem_cons_zero, Act.put, List.setIfInBounds_toArray, List.set_cons_zero, List.set_cons_succ])
                (refine wpAnyH_take (i := 19) (v := ?_) rfl (by kernel_rfl) (by kernel_rfl) (by kernel_rfl) (fun _ _ _ h => h) (Or.inl ⟨by kernel_rfl, ?_⟩) (by assumption) ?_; rotate_left; (focus (intro w hSw; (try dsimp only at hSw); go_simp; (try with_reducible rfl))); try simp only [List.getElem_toArray, List.getElem_cons_succ, List.getElem_cons_zero, Act.put, List.setIfInBounds_toArray, List.set_cons_zero, List.set_cons_succ])
                (refine wpAnyH_take (i := 20) (v := ?_) rfl (by kernel_rfl) (by kernel_rfl) (by kernel_rfl) (fun _ _ _ h => h) (Or.inl ⟨by kernel_rfl, ?_⟩) (by assumption) ?_; rotate_left; (focus (intro w hSw; (try dsimp only at hSw); go_simp; (try with_reducible rfl))); try simp only [List.getElem_toArray, List.getElem_cons_succ, List.getElem_cons_zero, Act.put, List.setIfInBounds_toArray, List.set_cons_zero, List.set_cons_succ])
                (refine wpAnyH_take (i := 21) (v := ?_) rfl (by kernel_rfl) (by kernel_rfl) (by kernel_rfl) (fun _ _ _ h => h) (Or.inl ⟨by kernel_rfl, ?_⟩) (by assumption) ?_; rotate_left; (focus (intro w hSw; (try dsimp only at hSw); go_simp; (try with_reducible rfl))); try simp only [List.getElem_toArray, List.getElem_cons_succ, List.getElem_cons_zero, Act.put, List.setIfInBounds_toArray, List.set_cons_zero, List.set_cons_succ])
                (refine wpAnyH_take (i := 22) (v := ?_) rfl (by kernel_rfl) (by kernel_rfl) (by kernel_rfl) (fun _ _ _ h => h) (Or.inl ⟨by kernel_rfl, ?_⟩) (by assumption) ?_; rotate_left; (focus (intro w hSw; (try dsimp only at hSw); go_simp; (try with_reducible rfl))); try simp only [List.getElem_toArray, List.getElem_cons_succ, List.getElem_cons_zero, Act.put, List.setIfInBounds_toArray, List.set_cons_zero, List.set_cons_succ])
                (refine wpAnyH_take (i := 23) (v := ?_) rfl (by kernel_rfl) (by kernel_rfl) (by kernel_rfl) (fun _ _ _ h => h) (Or.inl ⟨by kernel_rfl, ?_⟩) (by assumption) ?_; rotate_left; (focus (intro w hSw; (try dsimp only at hSw); go_simp; (try with_reducible rfl))); try simp only [List.getElem_toArray, List.getElem_cons_succ, List.getElem_cons_zero, Act.put, List.setIfInBounds_toArray, List.set_cons_zero, List.set_cons_succ])
                (refine wpAnyH_take (i := 24) (v := ?_) rfl (by kernel_rfl) (by kernel_rfl) (by kernel_rfl) (fun _ _ _ h => h) (Or.inl ⟨by kernel_rfl, ?_⟩) (by assumption) ?_; rotate_left; (focus (intro w hSw; (try dsimp only at hSw); go_simp; (try with_reducible rfl))); try simp only [List.getElem_toArray, List.getElem_cons_succ, List.getElem_cons_zero, Act.put, List.setIfInBounds_toArray, List.set_cons_zero, List.set_cons_succ])
                (refine wpAnyH_take (i := 25) (v := ?_) rfl (by kernel_rfl) (by kernel_rfl) (by kernel_rfl) (fun _ _ _ h => h) (Or.inl ⟨by kernel_rfl, ?_⟩) (by assumption) ?_; rotate_left; (focus (intro w hSw; (try dsimp only at hSw); go_simp; (try with_reducible rfl))); try simp only [List.getElem_toArray, List.getElem_cons_succ, List.getElem_cons_zero, Act.put, List.setIfInBounds_toArray, List.set_cons_zero, List.set_cons_succ])
                (refine wpAnyH_take (i := 26) (v := ?_) rfl (by kernel_rfl) (by kernel_rfl) (by kernel_rfl) (fun _ _ _ h => h) (Or.inl ⟨by kernel_rfl, ?_⟩) (by assumption) ?_; rotate_left; (focus (intro w hSw; (try dsimp only at hSw); go_simp; (try with_reducible rfl))); try simp only [List.getElem_toArray, List.getElem_cons_succ, List.getElem_cons_zero, Act.put, List.setIfInBounds_toArray, List.set_cons_zero, List.set_cons_succ])
                (refine wpAnyH_take (i := 27) (v := ?_) rfl (by kernel_rfl) (by kernel_rfl) (by kernel_rfl) (fun _ _ _ h => h) (Or.inl ⟨by kernel_rfl, ?_⟩) (by assumption) ?_; rotate_left; (focus (intro w hSw; (try dsimp only at hSw); go_simp; (try with_reducible rfl))); try simp only [List.getElem_toArray, List.getElem_cons_succ, List.getElem_cons_zero, Act.put, List.setIfInBounds_toArray, List.set_cons_zero, List.set_cons_succ])
                (refine wpAnyH_take (i := 28) (v := ?_) rfl (by kernel_rfl) (by kernel_rfl) (by kernel_rfl) (fun _ _ _ h => h) (Or.inl ⟨by kernel_rfl, ?_⟩) (by assumption) ?_; rotate_left; (focus (intro w hSw; (try dsimp only at hSw); go_simp; (try with_reducible rfl))); try simp only [List.getElem_toArray, List.getElem_cons_succ, List.getElem_cons_zero, Act.put, List.setIfInBounds_toArray, List.set_cons_zero, List.set_cons_succ])
                (refine wpAnyH_take (i := 29) (v := ?_) rfl (by kernel_rfl) (by kernel_rfl) (by kernel_rfl) (fun _ _ _ h => h) (Or.inl ⟨by kernel_rfl, ?_⟩) (by assumption) ?_; rotate_left; (focus (intro w hSw; (try dsimp only at hSw); go_simp; (try with_reducible rfl))); try simp only [List.getElem_toArray, List.getElem_cons_succ, List.getElem_cons_zero, Act.put, List.setIfInBounds_toArray, List.set_cons_zero, List.set_cons_succ])
                (refine wpAnyH_take (i := 30) (v := ?_) rfl (by kernel_rfl) (by kernel_rfl) (by kernel_rfl) (fun _ _ _ h => h) (Or.inl ⟨by kernel_rfl, ?_⟩) (by assumption) ?_; rotate_left; (focus (intro w hSw; (try dsimp only at hSw); go_simp; (try with_reducible rfl))); try simp only [List.getElem_toArray, List.getElem_cons_succ, List.getElem_cons_zero, Act.put, List.setIfInBounds_toArray, List.set_cons_zero, List.set_cons_succ])
                (refine wpAnyH_take (i := 31) (v := ?_) rfl (by kernel_rfl) (by kernel_rfl) (by kernel_rfl) (fun _ _ _ h => h) (Or.inl ⟨by kernel_rfl, ?_⟩) (by assumption) ?_; rotate_left; (focus (intro w hSw; (try dsimp only at hSw); go_simp; (try with_reducible rfl))); try simp only [List.getElem_toArray, List.getElem_cons_succ, List.getElem_cons_zero, Act.put, List.setIfInBounds_toArray, List.set_cons_zero, List.set_cons_succ])
                (refine wpAnyH_take (i := 32) (v := ?_) rfl (by kernel_rfl) (by kernel_rfl) (by kernel_rfl) (fun _ _ _ h => h) (Or.inl ⟨by kernel_rfl, ?_⟩) (by assumption) ?_; rotate_left; (focus (intro w hSw; (try dsimp only at hSw); go_simp; (try with_reducible rfl))); try simp only [List.getElem_toArray, List.getElem_cons_succ, List.getElem_cons_zero, Act.put, List.setIfInBounds_toArray, List.set_cons_zero, List.set_cons_succ])
                (refine wpAnyH_take (i := 33) (v := ?_) rfl (by kernel_rfl) (by kernel_rfl) (by kernel_rfl) (fun _ _ _ h => h) (Or.inl ⟨by kernel_rfl, ?_⟩) (by assumption) ?_; rotate_left; (focus (intro w hSw; (try dsimp only at hSw); go_simp; (try with_reducible rfl))); try simp only [List.getElem_toArray, List.getElem_cons_succ, List.getElem_cons_zero, Act.put, List.setIfInBounds_toArray, List.set_cons_zero, List.set_cons_succ])
                (refine wpAnyH_take (i := 34) (v := ?_) rfl (by kernel_rfl) (by kernel_rfl) (by kernel_rfl) (fun _ _ _ h => h) (Or.inl ⟨by kernel_rfl, ?_⟩) (by assumption) ?_; rotate_left; (focus (intro w hSw; (try dsimp only at hSw); go_simp; (try with_reducible rfl))); try simp only [List.getElem_toArray, List.getElem_cons_succ, List.getElem_cons_zero, Act.put, List.setIfInBounds_toArray, List.set_cons_zero, List.set_cons_succ])
                refine wpAnyH_done (by kernel_rfl) ?_ _
                refine NoPanic.normal ?_
                go_wp2_with fail
                go_roundg (R.length - (t + 1))
                case rel => exact ⟨t + 1, by omega, by go_num, rfl, (HB7.out.drew).trans (b8.mono HB7.out.size)⟩
                case measure => omega
            · have HF := Lib.hid (HB6.out.trans (b7.mono hz6))
              clear b7
              go_wp2_with fail
              go_ret
              exact ⟨rfl, HF.out⟩

end Go.Proofs.Ythplnecnagbedaa
