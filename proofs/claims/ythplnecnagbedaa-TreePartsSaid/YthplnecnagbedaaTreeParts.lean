/- The law TreeParts by contract: it returns true, whatever the acts and the keys; conditions: the acts read. -/
import Derived.Test.YthplnecnagbedaaTrKeep
import Derived.BigQuiet
import Derived.Deep.DeepCutAuto
import Derived.Deep.CutBlock
namespace Go.Proofs.Ythplnecnagbedaa
open Go.RowKit

theorem wpList_unguardP {P : Program} {ops : Array Oper} {Q : Exit → Act → World → Prop} {a : Act} {w : World} {rest : List Oper} {o : Oper} (hw : Region.wanted o (yielded ops a.tmps) = true)
    (h : wpList P ops Q ({ o with guard := none } :: rest) a w) : wpList P ops Q (o :: rest) a w := by
  unfold wpList at h ⊢
  rw [if_pos (by simp [Region.wanted])] at h
  rw [if_pos hw]
  exact h
/-- The keys, and the values at them, that a search left. -/
structure Two (b : Nat) (A : List Ent) (a8 : Option Addr) (c8 : Nat) (a9 : Option Addr) (c9 : Nat) (w : World) : Prop where
  keys : w.ownsRow b 9 1 (.slice a8 A.length c8) A.length (A.map fun e => .string e.1)
  vals : w.ownsRow b 3 1 (.slice a9 A.length c9) A.length (A.map fun e => .int .i64 e.2)
theorem Two.below {b : Nat} {A : List Ent} {a8 : Option Addr} {c8 : Nat} {a9 : Option Addr} {c9 : Nat} {w w' : World} (h : Two b A a8 c8 a9 c9 w) (hb : Below w.heap.size w w') : Two b A a8 c8 a9 c9 w' :=
  ⟨own_chg h.keys (Chg.of_below hb []) (by simp), own_chg h.vals (Chg.of_below hb []) (by simp)⟩
theorem Two.at {b : Nat} {A : List Ent} {a8 : Option Addr} {c8 : Nat} {a9 : Option Addr} {c9 : Nat} {w : World} (h : Two b A a8 c8 a9 c9 w) {j : Nat} (hj : j < A.length) :
    ∃ g g', a8 = some ⟨g, 0, none⟩ ∧ a9 = some ⟨g', 0, none⟩ ∧ g' < w.heap.size ∧ w.cell? ⟨g, 0 + j, none⟩ = some (.string (A[j]).1) ∧ w.cell? ⟨g', 0 + j, none⟩ = some (.int .i64 (A[j]).2) := by
  obtain ⟨g, e, _, _, c⟩ := own_rd h.keys j (.string A[j].1) (by simp [hj])
  obtain ⟨g', e', _, hg', c'⟩ := own_rd h.vals j (.int .i64 A[j].2) (by simp [hj])
  exact ⟨g, g', e, e', hg', by rw [Nat.zero_add]; exact c, by rw [Nat.zero_add]; exact c'⟩
theorem get_one {B n : Nat} {w : World} {M : TrM} {T : Tr} (hS : TS B w M T n) (hn : n ≤ 10000) {k : ByteArray} {v : Int} (hm : (k, v) ∈ entsT T) :
    Calls Try.prog 51 #[.pointer (some ⟨M.tb, 0, none⟩), .string k] w fun e w' => ∃ g, e = .returned (.tuple #[.int .i64 v, .bool true, .slice (some ⟨g, 0, none⟩) 1 1]) ∧ Below w.heap.size w w' := by
  obtain ⟨T1, l, T2, ha, _⟩ := findT_at hS.ok k
  refine (get_ts hS hn k ha).mono fun e w' ⟨g, _, h2, _, h4⟩ => ⟨g, ?_, h4⟩
  rw [h2, getSpec_mem hS.ok.sorted hm]
theorem scan_one {B n : Nat} {w : World} {M : TrM} {T : Tr} (hS : TS B w M T n) (hn : n ≤ 10000) {k : ByteArray} {v : Int} (hm : (k, v) ∈ entsT T) :
    Calls Try.prog 47 #[.pointer (some ⟨M.tb, 0, none⟩), .string k, .string ⟨#[]⟩, .int .i64 1] w fun e w' => ∃ b c8 a9 c9 a10 m c10, e = .returned (.tuple #[.slice (some ⟨b, 0, none⟩) 1 c8, .slice a9 1 c9, .slice a10 m c10, .int .i64 0]) ∧
      w'.cell? ⟨b, 0, none⟩ = some (.string k) ∧ Below w.heap.size w w' := by
  have hA : (scanT T k ⟨#[]⟩ 1).A = [(k, v)] := (scanT_A hS.ok).trans (scanE_at hS.ok.sorted hm)
  refine (scan_ts hS hn k ⟨#[]⟩ 1 (Nat.le_refl _) (by omega)).mono fun e w' ⟨a8, c8, a9, c9, a10, c10, he, h8, h9, h10, hb⟩ => ?_
  rw [hA] at he h8
  obtain ⟨g, e1, _, _, c⟩ := own_rd h8 0 (.string k) rfl
  subst e1
  exact ⟨g, c8, a9, c9, a10, _, c10, he, c, hb⟩
theorem own_rdP {B : Nat} {w : World} {a : Option Addr} {n k : Nat} {L : List ByteArray} (h : w.ownsRow B 9 1 (.slice a n k) n (L.map .string)) (hn : L.length = n) : RdS w w.heap.size a L := by
  subst hn
  exact OwnS.rd h
theorem keys_str (A : List Ent) : (A.map fun e => Value.string e.1) = (A.map (·.1)).map Value.string := by rw [List.map_map]; rfl

set_option maxRecDepth 100000 in
set_option maxHeartbeats 4000000 in
theorem treeParts_any (w : World) (aA : Option Addr) (nA cA : Nat) (A : List ActT) (hA : A.length = nA) (hl1 : nA ≤ 9223372036854775807) (rA : RdT w w.heap.size aA A) (fr tk ak : ByteArray) :
    Calls Try.prog 12 #[.slice aA nA cA, .agg #[.string fr, .string tk, .string ak]] w fun e w' => e = .returned (.bool true) ∧ Below w.heap.size w w' := by
  have hG : ∀ W, Below w.heap.size w W → Calls Try.prog 48 #[.slice aA nA cA] W (GrownP W) := fun W hW => by
    refine grown_any W aA nA cA A hA hl1 fun k hk => ?_
    obtain ⟨b, off, e, hb, r⟩ := (rA.below hW) k hk
    exact ⟨b, off, e, Nat.lt_of_lt_of_le hb hW.size, r⟩
  have HG := Lib.hid hG
  clear hG hA rA
  obtain ⟨i0, hi, hz0, hz1, hz2⟩ := info_parts Try.info9
  have HINF := Lib.hid hi
  clear hi
  have hbs := build0
  obtain ⟨W0, hW0⟩ : ∃ W0, W0 = w.alloc (.cells #[.string fr, .string tk, .string ak] 75) := ⟨_, rfl⟩
  have hbx : Blk W0 w.heap.size 75 #[.string fr, .string tk, .string ak] := by rw [hW0]; exact Blk.new _ _ _
  have hB0 : Below w.heap.size w W0 := by rw [hW0]; exact (Below.refl _ w).alloc (Nat.le_refl _) _
  have cx0 := hbx.at 0 rfl
  have cx1 := hbx.at 1 rfl
  have cx2 := hbx.at 2 rfl
  go_enter Try.func12, Try.ntmps12
  go_upto_region 1 with fail
  rw [← hW0]
  have HW0 := Lib.hid hW0
  clear hW0
  go_quiet (fail)
  go_upto_region 4 with (go_at_call 41; refine (treeWorks_any _).mono ?_; rintro e w1 ⟨rfl, b1⟩)
  have hB1 : Below w.heap.size w w1 := (below_drewN hB0 _).trans (b1.mono hB0.size)
  have hG1 := HG.out w1 hB1
  clear HG hbx HW0 hB0 b1 cx0 cx1 cx2
  go_upto_region 7 with (go_at_call 48; refine hG1.mono ?_; rintro e w2 ⟨M, T, rfl, hS, b2⟩)
  have hB2 := hB1.trans (b2.mono hB1.size)
  have hss := hS.ok.sorted
  have hfew := hS.few
  have hscn : ∀ W fa ta, Below w2.heap.size w2 W → Calls Try.prog 47 #[.pointer (some ⟨M.tb, 0, none⟩), .string fa, .string ta, .int .i64 4096] W (ScanTr W (scanT T fa ta 4096)) := fun W fa ta hW => scan_ts (hS.below hW) (by omega) fa ta 4096 (by omega) (by omega)
  have hA0 := scanT_A (fr := fr) (tk := tk) (most := 4096) hS.ok
  have hA1 := scanT_A (fr := fr) (tk := ak) (most := 4096) hS.ok
  have hA2 := scanT_A (fr := ak) (tk := tk) (most := 4096) hS.ok
  have hs0 := hscn w2 fr tk (Below.refl _ w2)
  generalize scanT T fr tk 4096 = st0 at hs0 hA0
  obtain ⟨E0, S0⟩ := st0
  dsimp only at hA0
  have hl0 : E0.length ≤ 4096 := by rw [hA0]; exact Nat.le_trans (scanE_len hss hfew) hfew
  have HS := Lib.hid hS
  have HB2 := Lib.hid hB2
  have HSS := Lib.hid hss
  have HSC := Lib.hid hscn
  have HA0 := Lib.hid hA0
  have HFEW := Lib.hid hfew
  clear hS hB2 hss hscn hA0 hG1 hB1 b2
  go_upto_region 10 with (go_at_call 47; refine hs0.mono ?_; rintro e w3 ⟨a8, c8, a9, c9, a10, c10, rfl, h8, h9, h10, b3⟩)
  have HB3 := Lib.hid (HB2.out.trans (b3.mono HB2.out.size))
  have HW3 := Lib.hid b3
  have H20 : Hid (Two w2.heap.size E0 a8 c8 a9 c9 w3) := Lib.hid ⟨h8, h9⟩
  clear h8 h9 h10 b3 HB2
  have hcase : (ak = emp) ∨ (ak ≠ emp ∧ bl ak fr = true) ∨ (ak ≠ emp ∧ bl ak fr = false ∧ tk ≠ emp ∧ bl tk ak = true) ∨
      (ak ≠ emp ∧ bl ak fr = false ∧ (tk = emp ∨ (tk ≠ emp ∧ bl ak tk = true ∧ bl tk fr = false) ∨ tk = ak)) := by
    by_cases h0 : ak = emp
    · exact .inl h0
    · cases h1 : bl ak fr
      · by_cases h2 : tk = emp
        · exact .inr (.inr (.inr ⟨h0, rfl, .inl h2⟩))
        · rcases bl_total tk ak with h3 | h3 | h3
          · exact .inr (.inr (.inl ⟨h0, rfl, h2, h3⟩))
          · exact .inr (.inr (.inr ⟨h0, rfl, .inr (.inr h3)⟩))
          · refine .inr (.inr (.inr ⟨h0, rfl, .inr (.inl ⟨h2, h3, ?_⟩)⟩))
            cases h4 : bl tk fr
            · rfl
            · have := bl_lt_le h4 h1
              rw [bl_asymm h3] at this; cases this
      · exact .inr (.inl ⟨h0, rfl⟩)
  rcases hcase with h0 | ⟨h0, h1⟩ | ⟨h0, h1, h2, h3⟩ | ⟨h0, h1, h2⟩
  · have q0 : ak.toList.isEmpty = true := by rw [h0, emp_toList]; rfl
    clear h0
    go_wp2_with fail
    go_ret
    exact ⟨rfl, HB3.out⟩
  · have q0 := ne_emp h0
    have q1 : Op.bytesLess ak.toList fr.toList = true := h1
    clear h0 h1
    go_wp2_with fail
    go_ret
    exact ⟨rfl, HB3.out⟩
  · have q0 := ne_emp h0
    have q1 : Op.bytesLess ak.toList fr.toList = false := h1
    have q2 := ne_emp h2
    have q3 : Op.bytesLess ak.toList tk.toList = false := bl_asymm h3
    have q4 : ¬ ak.toList = tk.toList := fun e => bl_ne h3 (ba_ext e.symm)
    clear h0 h1 h2 h3
    go_wp2_with fail
    go_ret
    exact ⟨rfl, HB3.out⟩
  · have hpt := scanE_parts HSS.out (fr := fr) (tk := tk) (at_ := ak) HFEW.out h0 h1 (fun h => by
      rcases h2 with h2 | h2 | h2
      · exact absurd h2 h
      · exact bl_asymm h2.2.1
      · rw [h2]; exact bl_irrefl _)
    rw [← hA1, ← hA2, ← HA0.out] at hpt
    have hs1 := fun W hW => HSC.out W fr ak hW
    have hs2 := fun W hW => HSC.out W ak tk hW
    generalize scanT T fr ak 4096 = st1 at hs1 hpt hA1
    generalize scanT T ak tk 4096 = st2 at hs2 hpt hA2
    obtain ⟨E1, S1⟩ := st1
    obtain ⟨E2, S2⟩ := st2
    dsimp only at hpt hA1 hA2
    have HPT := Lib.hid hpt
    have hle : E1.length + E2.length = E0.length := by rw [← hpt, List.length_append]
    have HS1 := Lib.hid hs1
    have HS2 := Lib.hid hs2
    have q0 := ne_emp h0
    have q1 : Op.bytesLess ak.toList fr.toList = false := h1
    have hq : (tk.toList.isEmpty = true) ∨ (tk.toList.isEmpty = false ∧ Op.bytesLess ak.toList tk.toList = true ∧ Op.bytesLess tk.toList fr.toList = false) ∨
        (tk.toList.isEmpty = false ∧ ak.toList = tk.toList ∧ Op.bytesLess tk.toList fr.toList = false) := by
      rcases h2 with h2 | h2 | h2
      · exact .inl (by rw [h2, emp_toList]; rfl)
      · exact .inr (.inl ⟨ne_emp h2.1, h2.2.1, h2.2.2⟩)
      · exact .inr (.inr (by rw [h2]; exact ⟨q0, rfl, q1⟩))
    clear h0 h1 hs1 hs2 hpt hA1 hA2 h2 hs0
    rcases hq with q2 | ⟨q2, q3, q4⟩ | ⟨q2, q3, q4⟩
    all_goals
      go_upto_region 14 with (first
        | (go_at_call 47; have b34 := HW3.out.trans (b4.mono HW3.out.size); refine (HS2.out _ b34).mono ?_; rintro e w5 ⟨f8, k8, f9, k9, f10, k10, rfl, f8o, f9o, f10o, b5⟩)
        | (go_at_call 47; refine (HS1.out _ HW3.out).mono ?_; rintro e w4 ⟨d8, e8, d9, e9, d10, e10, rfl, d8o, d9o, d10o, b4⟩))
      try dsimp only at d8o f8o
      rw [keys_str] at d8o f8o
      have H25 : Hid (Two w2.heap.size E0 a8 c8 a9 c9 w5) := Lib.hid ((H20.out.below b4).below b5)
      have hk5 : w5.ownsRow w2.heap.size 9 1 (.slice a8 E0.length c8) E0.length ((E0.map (·.1)).map .string) := by rw [← keys_str]; exact H25.out.keys
      have hd5 := own_chg d8o (Chg.of_below b5 []) (by simp)
      have HK5 := Lib.hid hk5
      have HD5 := Lib.hid hd5
      have HF5 := Lib.hid f8o
      have HB5 := Lib.hid ((HB3.out.trans (b4.mono HB3.out.size)).trans (b5.mono (Nat.le_trans HB3.out.size b4.size)))
      have HW5 := Lib.hid (b34.trans (b5.mono b34.size))
      clear hk5 hd5 f8o d8o d9o d10o f9o f10o b4 b5 H20 HS1 HS2 HB3 HW3 b34
      go_wp2_with (first
        | (at_builtin; refine wpList_unguardP (by go_simp) ?_; refine wpList_append_to rfl (.tmp 101) (.tmp 102) 44 rfl w5.heap.size 9 i0 (.string ⟨#[]⟩) 1 16 Try.underlying44 HINF.out hz0 hz1 hz2 rfl (by decide) _ _ _ rfl hown11 _ _ _ ((E2.map (·.1)).map .string) rfl (by simp) (own_news (own_chg HF5.out (Chg.of_below hb11 []) (by simp))) (str_one _) _ rfl ((E0.map (·.1)).map .string) (by rw [← HPT.out]; simp) (by unfold maxLen; omega) (by omega) hb11.size ?_; intro aT kT w12 hown12 hgr12; have hb12 : Below w5.heap.size w5 w12 := below_grown hb11 hgr12 hb11.size (below_own hown11); rw [hle] at hown12; have hst := sameTexts_any w12 aT a8 _ _ kT c8 (E0.map (·.1)) (E0.map (·.1)) (List.length_map _) (List.length_map _) ⟨by omega, by omega⟩ (own_rdP hown12 (List.length_map _)) (own_rdP (own_chg HK5.out (Chg.of_below hb12 []) (by simp)) (List.length_map _)); rw [decide_eq_true rfl] at hst)
        | (at_builtin; refine wpList_unguardP (by go_simp) ?_; refine wpList_append_to rfl (.tmp 99) (.tmp 100) 44 rfl w5.heap.size 9 i0 (.string ⟨#[]⟩) 1 16 Try.underlying44 HINF.out hz0 hz1 hz2 rfl (by decide) _ 0 [] rfl (own_zero w5) _ _ _ ((E1.map (·.1)).map .string) rfl (by simp) (own_news (own_chg HD5.out ((Chg.refl [] w5).alloc _) (by simp))) (str_one _) _ (Nat.zero_add _) ((E1.map (·.1)).map .string) rfl (by unfold maxLen; omega) (by omega) (by simp) ?_; intro aM kM w11 hown11 hgr11; have hb11 : Below w5.heap.size w5 w11 := below_grown ((Below.refl _ w5).alloc (Nat.le_refl _) _) hgr11 (by simp) (fun q hq => by cases hq; exact Nat.le_refl _))
        | (go_at_call 32; refine hst.mono ?_; rintro e w13 ⟨rfl, q, rfl⟩))
      have hb13 := below_drewN hb12 q
      have HB13 := Lib.hid (HB5.out.trans (hb13.mono HB5.out.size))
      have H213 := Lib.hid (H25.out.below hb13)
      have HS13 := Lib.hid (HS.out.below (HW5.out.trans (hb13.mono HW5.out.size)))
      clear hst hown11 hown12 hgr11 hgr12 hb11 hb12 hb13 HB5 H25 HW5 HF5 HD5 HK5
      generalize w12.drewN q = w13 at HB13 H213 HS13 ⊢
      go_loopg [110] E0.length (fun gn iv wr => ∃ (j : Nat), j ≤ E0.length ∧ iv = .int .i64 j ∧ gn = E0.length - j ∧ Below w13.heap.size w13 wr)
      case atStart => exact ⟨0, Nat.zero_le _, rfl, rfl, Below.refl _ _⟩
      case round =>
        obtain ⟨j, hj, rfl, rfl, bj⟩ := hrel
        by_cases hjl : j < E0.length
        · obtain ⟨g, g', rfl, rfl, hg', ck, cv⟩ := (H213.out.below bj).at hjl
          have hm : E0[j] ∈ entsT T := scanE_mem HSS.out HFEW.out (by rw [← HA0.out]; exact List.getElem_mem hjl)
          generalize E0[j] = ee at ck cv hm
          obtain ⟨k, v⟩ := ee
          dsimp only at ck cv
          have ck2 := ck
          have cv2 := cv
          rw [Nat.zero_add] at ck2 cv2
          have hg := get_one (HS13.out.below bj) (by omega) hm
          have hs := fun W hW => scan_one (HS13.out.below (w' := W) (bj.trans hW)) (by omega) hm
          have HS' := Lib.hid hs
          have HBJ := Lib.hid bj
          have hji : (j : Int) < (E0.length : Int) := by omega
          clear hs hm bj
          go_wp2_with (first
            | (go_at_call 51; refine hg.mono ?_; rintro e w6 ⟨b6, rfl, b6b⟩; have cv6 := (b6b.cell (p := ⟨g', _, none⟩) hg').trans cv; have cv7 := (b6b.cell (p := ⟨g', _, none⟩) hg').trans cv2)
            | (go_at_call 47; refine (HS'.out _ (b6b.mono HBJ.out.size)).mono ?_; rintro e w7 ⟨b7, c8', a9', c9', a10', m', c10', rfl, ck7, b7b⟩; have cv8 := (b7b.cell (p := ⟨g', _, none⟩) (Nat.lt_of_lt_of_le hg' b6b.size)).trans cv6; have cv9 := (b7b.cell (p := ⟨g', _, none⟩) (Nat.lt_of_lt_of_le hg' b6b.size)).trans cv7))
          go_roundg (E0.length - (j + 1))
          case rel => exact ⟨j + 1, by omega, by go_num, rfl, HBJ.out.trans ((b6b.trans (b7b.mono b6b.size)).mono HBJ.out.size)⟩
          case measure => omega
        · have hji : ¬ ((j : Int) < (E0.length : Int)) := by omega
          have HF := Lib.hid (HB13.out.trans (bj.mono HB13.out.size))
          clear bj
          go_wp2_with fail
          go_ret
          exact ⟨rfl, HF.out⟩

end Go.Proofs.Ythplnecnagbedaa
