/- Check of package words and of the document's package, each by its contract; conditions: none but how the tasks read. -/
import Derived.Test.YtlcgighhiacnpaaWdCheck
import Derived.Deep.RegionHeld3
import Derived.StillTailTactics
namespace Go.Proofs.Ytlcgighhiacnpaa
open Go.RowKit

theorem getDT {T : List (List Ins)} {t : Nat} (h : t < T.length) : T.drop t = T.getD t [] :: T.drop (t + 1) := by rw [List.drop_eq_getElem_cons h]; simp [List.getD, h]
theorem getDI {l : List Ins} {t : Nat} (h : t < l.length) : l.drop t = l.getD t ins0 :: l.drop (t + 1) := by rw [List.drop_eq_getElem_cons h]; simp [List.getD, h]

set_option maxRecDepth 100000 in
set_option maxHeartbeats 2000000 in
theorem check_any (w : World) (ao : Option Addr) (len cap : Nat) (T : List (List Ins)) (hT : T.length = len) (hl : len ≤ 9223372036854775807) (hrd : RdT w w.heap.size ao T) (c : Int) :
    Calls Try.prog 11 #[.slice ao len cap, .int .i64 c] w fun e w' => e = .returned (tup3 (chk T c)) ∧ Below w.heap.size w w' := by
  have hI := is_any
  have hc : chk T c = if 4096 < T.length ∨ c < 0 ∨ 4096 < c then (0, 0, 2) else chkT c T 0 := rfl
  rw [hT] at hc
  generalize chk T c = out at hc ⊢
  by_cases h1 : 4096 < len
  · rw [if_pos (.inl h1)] at hc
    subst hc
    go_enter Try.func11, Try.ntmps11
    go_wp2
    go_ret3
    exact ⟨rfl, Below.refl _ _⟩
  by_cases h2 : c < 0
  · rw [if_pos (.inr (.inl h2))] at hc
    subst hc
    go_enter Try.func11, Try.ntmps11
    go_wp2
    go_ret3
    exact ⟨rfl, Below.refl _ _⟩
  by_cases h3 : 4096 < c
  · rw [if_pos (.inr (.inr h3))] at hc
    subst hc
    go_enter Try.func11, Try.ntmps11
    go_wp2
    go_ret3
    exact ⟨rfl, Below.refl _ _⟩
  rw [if_neg (by omega)] at hc
  have HT := Lib.hid hT
  have HC := Lib.hid hc
  clear hT hc
  go_enter Try.func11, Try.ntmps11
  go_wp2
  go_loopg [24] len (fun gn i wr => ∃ (t : Nat), t ≤ len ∧ i = .int .i64 t ∧ gn = len - t ∧ out = chkT c (T.drop t) t ∧ Below w.heap.size w wr)
  case atStart => exact ⟨0, Nat.zero_le _, rfl, rfl, HC.out, Below.refl _ _⟩
  case round =>
    obtain ⟨t, ht, rfl, rfl, hout, hb⟩ := hrel
    by_cases htl : t < len
    · have htT : t < T.length := by rw [HT.out]; exact htl
      obtain ⟨b, off, at_, ct, rfl, hbB, c0w, hct1, hct2, hri⟩ := hrd t htT
      have c0 := (hb.cell (p := ⟨b, _, none⟩) hbB).trans c0w
      clear c0w
      rw [getDT htT] at hout
      have hch : chkT c (T.getD t [] :: T.drop (t + 1)) t = if 4096 < (T.getD t []).length then (t, 0, 2) else match chkL (T.getD t []).length c (T.getD t []) 0 with
        | some i => (t, i, 30)
        | none => chkT c (T.drop (t + 1)) (t + 1) := rfl
      rw [hch] at hout
      generalize T.getD t [] = l at c0 hct1 hri hout
      clear hch
      by_cases hl2 : 4096 < l.length
      · rw [if_pos hl2] at hout
        subst hout
        go_wp2
        go_ret3
        exact ⟨rfl, hb⟩
      · rw [if_neg hl2] at hout
        have HO := Lib.hid hout
        clear hout
        have z0 := hb.size
        go_wp2
        go_loopg [35] l.length (fun gn i wi => ∃ (k : Nat), k ≤ l.length ∧ i = .int .i64 k ∧ gn = l.length - k ∧ chkL l.length c l 0 = chkL l.length c (l.drop k) k ∧ Below w.heap.size w wi)
        case atStart => exact ⟨0, Nat.zero_le _, rfl, rfl, rfl, hb⟩
        case round =>
          obtain ⟨k, hk, rfl, rfl, hck, hbi⟩ := hrel
          by_cases hkl : k < l.length
          · obtain ⟨b2, off2, rfl, hbB2, r0, r1, r2, r3⟩ := (hri.below hbi) k hkl
            rw [getDI hkl] at hck
            have hch : chkL l.length c (l.getD k ins0 :: l.drop (k + 1)) k = if okI (l.getD k ins0) l.length c then chkL l.length c (l.drop (k + 1)) (k + 1) else some k := rfl
            rw [hch] at hck
            generalize l.getD k ins0 = x at r0 r1 r2 r3 hck
            obtain ⟨xk, xa, xb, xn⟩ := x
            dsimp only at r0 r1 r2 r3
            have hI := fun W => is_any W xk xa xb xn l.length c
            generalize okI ⟨xk, xa, xb, xn⟩ l.length c = ok at hck hI
            have zi := hbi.size
            cases ok with
            | true =>
              rw [if_pos rfl] at hck
              have HK := Lib.hid hck
              clear hck hch
              go_wp2_with (go_at_call 21; refine (hI _).mono ?_; rintro e w2 ⟨rfl, b2⟩)
              go_roundg (l.length - (k + 1))
              case rel => exact ⟨k + 1, by omega, by go_num, rfl, HK.out, (hbi.alloc zi _).trans (b2.mono (hbi.alloc zi _).size)⟩
              case measure => omega
            | false =>
              rw [if_neg (by simp)] at hck
              have hout := HO.out
              rw [hck] at hout
              clear hck hch
              go_wp2_with (go_at_call 21; refine (hI _).mono ?_; rintro e w2 ⟨rfl, b2⟩)
              go_ret3
              exact ⟨by rw [hout]; rfl, (hbi.alloc zi _).trans (b2.mono (hbi.alloc zi _).size)⟩
          · obtain rfl : k = l.length := by omega
            have hout := HO.out
            rw [hck, List.drop_length] at hout
            have HO2 := Lib.hid hout
            clear hout
            go_wp2
            go_roundg (len - (t + 1))
            case rel => exact ⟨t + 1, by omega, by go_num, rfl, HO2.out, hbi⟩
            case measure => omega
    · obtain rfl : t = len := by omega
      rw [List.drop_of_length_le (by rw [HT.out]; exact Nat.le_refl _)] at hout
      go_wp2
      go_ret3
      exact ⟨by rw [hout]; rfl, hb⟩

set_option maxRecDepth 100000 in
set_option maxHeartbeats 2000000 in
theorem rcheck_any (w : World) (ao : Option Addr) (len cap : Nat) (T : List (List Ins)) (hT : T.length = len) (hl : len ≤ 9223372036854775807) (hrd : RdT w w.heap.size ao T) (c : Int) :
    Calls Try.prog 12 #[.slice ao len cap, .int .i64 c] w fun e w' => e = .returned (tup3 (chk T c)) ∧ Below w.heap.size w w' := by
  have hI := may_any
  have hc : chk T c = if 4096 < T.length ∨ c < 0 ∨ 4096 < c then (0, 0, 2) else chkT c T 0 := rfl
  rw [hT] at hc
  generalize chk T c = out at hc ⊢
  by_cases h1 : 4096 < len
  · rw [if_pos (.inl h1)] at hc
    subst hc
    go_enter Try.func12, Try.ntmps12
    go_wp2
    go_ret3
    exact ⟨rfl, Below.refl _ _⟩
  by_cases h2 : c < 0
  · rw [if_pos (.inr (.inl h2))] at hc
    subst hc
    go_enter Try.func12, Try.ntmps12
    go_wp2
    go_ret3
    exact ⟨rfl, Below.refl _ _⟩
  by_cases h3 : 4096 < c
  · rw [if_pos (.inr (.inr h3))] at hc
    subst hc
    go_enter Try.func12, Try.ntmps12
    go_wp2
    go_ret3
    exact ⟨rfl, Below.refl _ _⟩
  rw [if_neg (by omega)] at hc
  have HT := Lib.hid hT
  have HC := Lib.hid hc
  clear hT hc
  go_enter Try.func12, Try.ntmps12
  go_wp2
  go_loopg [7] len (fun gn i wr => ∃ (t : Nat), t ≤ len ∧ i = .int .i64 t ∧ gn = len - t ∧ out = chkT c (T.drop t) t ∧ Below w.heap.size w wr)
  case atStart => exact ⟨0, Nat.zero_le _, rfl, rfl, HC.out, Below.refl _ _⟩
  case round =>
    obtain ⟨t, ht, rfl, rfl, hout, hb⟩ := hrel
    by_cases htl : t < len
    · have htT : t < T.length := by rw [HT.out]; exact htl
      obtain ⟨b, off, at_, ct, rfl, hbB, c0w, hct1, hct2, hri⟩ := hrd t htT
      have c0 := (hb.cell (p := ⟨b, _, none⟩) hbB).trans c0w
      rw [getDT htT] at hout
      have hch : chkT c (T.getD t [] :: T.drop (t + 1)) t = if 4096 < (T.getD t []).length then (t, 0, 2) else match chkL (T.getD t []).length c (T.getD t []) 0 with
        | some i => (t, i, 30)
        | none => chkT c (T.drop (t + 1)) (t + 1) := rfl
      rw [hch] at hout
      generalize T.getD t [] = l at c0 c0w hct1 hri hout
      clear hch
      by_cases hl2 : 4096 < l.length
      · rw [if_pos hl2] at hout
        subst hout
        go_wp2
        go_ret3
        exact ⟨rfl, hb⟩
      · rw [if_neg hl2] at hout
        have HO := Lib.hid hout
        clear hout
        have z0 := hb.size
        go_wp2
        go_loopg [8] l.length (fun gn i wi => ∃ (k : Nat), k ≤ l.length ∧ i = .int .i64 k ∧ gn = l.length - k ∧ chkL l.length c l 0 = chkL l.length c (l.drop k) k ∧ Below w.heap.size w wi)
        case atStart => exact ⟨0, Nat.zero_le _, rfl, rfl, rfl, hb⟩
        case round =>
          obtain ⟨k, hk, rfl, rfl, hck, hbi⟩ := hrel
          have cH := (hbi.cell (p := ⟨b, _, none⟩) hbB).trans c0w
          by_cases hkl : k < l.length
          · obtain ⟨b2, off2, rfl, hbB2, r0, r1, r2, r3⟩ := (hri.below hbi) k hkl
            rw [getDI hkl] at hck
            have hch : chkL l.length c (l.getD k ins0 :: l.drop (k + 1)) k = if okI (l.getD k ins0) l.length c then chkL l.length c (l.drop (k + 1)) (k + 1) else some k := rfl
            rw [hch] at hck
            generalize l.getD k ins0 = x at r0 r1 r2 r3 hck
            obtain ⟨xk, xa, xb, xn⟩ := x
            dsimp only at r0 r1 r2 r3
            have hI := fun W => may_any W xk xa xb xn l.length c
            generalize okI ⟨xk, xa, xb, xn⟩ l.length c = ok at hck hI
            have zi := hbi.size
            cases ok with
            | true =>
              rw [if_pos rfl] at hck
              have HK := Lib.hid hck
              clear hck hch
              go_upto_region 11 with fail
              go_region_held3 (fun w' => w'.cell? ⟨b, off + t, none⟩ = some (.slice (some ⟨b2, off2, none⟩) l.length ct) ∧ w'.cell? ⟨b2, off2 + k * 4, none⟩ = some (.int .i64 xk) ∧ w'.cell? ⟨b2, off2 + k * 4 + 1, none⟩ = some (.int .i64 xa) ∧ w'.cell? ⟨b2, off2 + k * 4 + 2, none⟩ = some (.int .i64 xb) ∧ w'.cell? ⟨b2, off2 + k * 4 + 3, none⟩ = some (.int .i64 xn))
                (first | exact ⟨s4, s0, s1, s2, s3⟩ | exact ⟨cH, r0, r1, r2, r3⟩)
                (first | (go_at_call 22; refine (hI _).mono ?_; rintro e w2 ⟨rfl, b2'⟩; have s4 := (b2'.cell (p := ⟨b, off + t, none⟩) (by show b < wr.heap.size; omega)).trans cH; have s0 := (b2'.cell (p := ⟨b2, off2 + k * 4, none⟩) (by show b2 < wr.heap.size; omega)).trans r0; have s1 := (b2'.cell (p := ⟨b2, off2 + k * 4 + 1, none⟩) (by show b2 < wr.heap.size; omega)).trans r1; have s2 := (b2'.cell (p := ⟨b2, off2 + k * 4 + 2, none⟩) (by show b2 < wr.heap.size; omega)).trans r2; have s3 := (b2'.cell (p := ⟨b2, off2 + k * 4 + 3, none⟩) (by show b2 < wr.heap.size; omega)).trans r3))
              go_wp2_with fail
              go_roundg (l.length - (k + 1))
              case rel => exact ⟨k + 1, by omega, by go_num, rfl, HK.out, hbi.drew.trans (b2'.mono hbi.drew.size)⟩
              case measure => omega
            | false =>
              rw [if_neg (by simp)] at hck
              have hout := HO.out
              rw [hck] at hout
              clear hck hch
              go_upto_region 11 with fail
              go_region_held3 (fun w' => w'.cell? ⟨b, off + t, none⟩ = some (.slice (some ⟨b2, off2, none⟩) l.length ct) ∧ w'.cell? ⟨b2, off2 + k * 4, none⟩ = some (.int .i64 xk) ∧ w'.cell? ⟨b2, off2 + k * 4 + 1, none⟩ = some (.int .i64 xa) ∧ w'.cell? ⟨b2, off2 + k * 4 + 2, none⟩ = some (.int .i64 xb) ∧ w'.cell? ⟨b2, off2 + k * 4 + 3, none⟩ = some (.int .i64 xn))
                (first | exact ⟨s4, s0, s1, s2, s3⟩ | exact ⟨cH, r0, r1, r2, r3⟩)
                (first | (go_at_call 22; refine (hI _).mono ?_; rintro e w2 ⟨rfl, b2'⟩; have s4 := (b2'.cell (p := ⟨b, off + t, none⟩) (by show b < wr.heap.size; omega)).trans cH; have s0 := (b2'.cell (p := ⟨b2, off2 + k * 4, none⟩) (by show b2 < wr.heap.size; omega)).trans r0; have s1 := (b2'.cell (p := ⟨b2, off2 + k * 4 + 1, none⟩) (by show b2 < wr.heap.size; omega)).trans r1; have s2 := (b2'.cell (p := ⟨b2, off2 + k * 4 + 2, none⟩) (by show b2 < wr.heap.size; omega)).trans r2; have s3 := (b2'.cell (p := ⟨b2, off2 + k * 4 + 3, none⟩) (by show b2 < wr.heap.size; omega)).trans r3))
              go_wp2_with fail
              go_ret3
              exact ⟨by rw [hout]; rfl, hbi.drew.trans (b2'.mono hbi.drew.size)⟩
          · obtain rfl : k = l.length := by omega
            have hout := HO.out
            rw [hck, List.drop_length] at hout
            have HO2 := Lib.hid hout
            clear hout
            go_wp2
            go_roundg (len - (t + 1))
            case rel => exact ⟨t + 1, by omega, by go_num, rfl, HO2.out, hbi⟩
            case measure => omega
    · obtain rfl : t = len := by omega
      rw [List.drop_of_length_le (by rw [HT.out]; exact Nat.le_refl _)] at hout
      go_wp2
      go_ret3
      exact ⟨by rw [hout]; rfl, hb⟩

end Go.Proofs.Ytlcgighhiacnpaa
