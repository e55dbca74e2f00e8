/- Instructions, tasks, and which may be: in plain terms; conditions: none. -/
import Derived.Test.YtlcgighhiacnpaaWords2
namespace Go.Proofs.Ytlcgighhiacnpaa
open Go.RowKit

structure Ins where
  k : Int
  a : Int
  b : Int
  n : Int
def ins0 : Ins := ⟨0, 0, 0, 0⟩
instance : Inhabited Ins := ⟨ins0⟩

/-- May an instruction be, in a task of so many, with so many cells? -/
def okI (x : Ins) (many cells : Int) : Bool :=
  if x.a < 0 ∨ 7 < x.a ∨ x.b < 0 ∨ 7 < x.b then false
  else if x.k = 1 ∨ x.k = 2 ∨ x.k = 3 ∨ x.k = 8 then true
  else if x.k = 4 ∨ x.k = 5 ∨ x.k = 6 then decide (0 ≤ x.n ∧ x.n < cells)
  else if x.k = 7 then decide (0 ≤ x.n ∧ x.n ≤ many) else false

/-- The first that may not be. -/
def chkL (many cells : Int) : List Ins → Nat → Option Nat
  | [], _ => none
  | x :: r, i => if okI x many cells then chkL many cells r (i + 1) else some i
def chkT (cells : Int) : List (List Ins) → Nat → Nat × Nat × Int
  | [], _ => (0, 0, 0)
  | l :: r, t => if 4096 < l.length then (t, 0, 2) else match chkL l.length cells l 0 with
    | some i => (t, i, 30)
    | none => chkT cells r (t + 1)
def chk (T : List (List Ins)) (cells : Int) : Nat × Nat × Int := if 4096 < T.length ∨ cells < 0 ∨ 4096 < cells then (0, 0, 2) else chkT cells T 0
def tup3 (r : Nat × Nat × Int) : Value := .tuple #[.int .i64 r.1, .int .i64 r.2.1, .int .i64 r.2.2]

theorem chkL_none {many cells : Int} {l : List Ins} {i : Nat} (h : chkL many cells l i = none) : ∀ x ∈ l, okI x many cells = true := by
  induction l generalizing i with
  | nil => intro x hx; cases hx
  | cons y l ih =>
    intro x hx
    unfold chkL at h
    split at h
    · rename_i hy
      rcases List.mem_cons.1 hx with rfl | hx
      · exact hy
      · exact ih h x hx
    · cases h
/-- All of the tasks may be. -/
def OkTs (T : List (List Ins)) (cells : Int) : Prop := T.length ≤ 4096 ∧ 0 ≤ cells ∧ cells ≤ 4096 ∧ ∀ l ∈ T, l.length ≤ 4096 ∧ ∀ x ∈ l, okI x l.length cells = true
theorem chkT_ok {cells : Int} {T : List (List Ins)} {t : Nat} (h : (chkT cells T t).2.2 = 0) : ∀ l ∈ T, l.length ≤ 4096 ∧ ∀ x ∈ l, okI x l.length cells = true := by
  induction T generalizing t with
  | nil => intro l hl; cases hl
  | cons y T ih =>
    intro l hl
    unfold chkT at h
    split at h
    · cases h
    · rename_i hy
      split at h
      · cases h
      · rename_i hn
        rcases List.mem_cons.1 hl with rfl | hl
        · exact ⟨by omega, chkL_none hn⟩
        · exact ih h l hl
theorem chk_ok {T : List (List Ins)} {cells : Int} (h : (chk T cells).2.2 = 0) : OkTs T cells := by
  unfold chk at h
  split at h
  · cases h
  · rename_i hc
    exact ⟨by omega, by omega, by omega, chkT_ok h⟩

/-- Instructions that came in: what each element reads as, below block B. -/
def RdI (w : World) (B : Nat) (ao : Option Addr) (l : List Ins) : Prop :=
  ∀ k, k < l.length → ∃ b off, ao = some ⟨b, off, none⟩ ∧ b < B ∧ w.cell? ⟨b, off + k * 4, none⟩ = some (.int .i64 (l.getD k ins0).k) ∧ w.cell? ⟨b, off + k * 4 + 1, none⟩ = some (.int .i64 (l.getD k ins0).a) ∧
    w.cell? ⟨b, off + k * 4 + 2, none⟩ = some (.int .i64 (l.getD k ins0).b) ∧ w.cell? ⟨b, off + k * 4 + 3, none⟩ = some (.int .i64 (l.getD k ins0).n)
/-- Tasks that came in. -/
def RdT (w : World) (B : Nat) (ao : Option Addr) (T : List (List Ins)) : Prop :=
  ∀ t, t < T.length → ∃ b off at_ ct, ao = some ⟨b, off, none⟩ ∧ b < B ∧ w.cell? ⟨b, off + t, none⟩ = some (.slice at_ (T.getD t []).length ct) ∧ (T.getD t []).length ≤ ct ∧ ct ≤ 9223372036854775807 ∧ RdI w B at_ (T.getD t [])
theorem RdI.below {w w' : World} {B : Nat} {ao : Option Addr} {l : List Ins} (h : RdI w B ao l) (hb : Below B w w') : RdI w' B ao l := fun k hk => by
  obtain ⟨b, off, e, hB, c0, c1, c2, c3⟩ := h k hk
  exact ⟨b, off, e, hB, (hb.cell (p := ⟨b, _, none⟩) hB).trans c0, (hb.cell (p := ⟨b, _, none⟩) hB).trans c1, (hb.cell (p := ⟨b, _, none⟩) hB).trans c2, (hb.cell (p := ⟨b, _, none⟩) hB).trans c3⟩
theorem RdI.mono {w : World} {B B' : Nat} {ao : Option Addr} {l : List Ins} (h : RdI w B ao l) (hb : B ≤ B') : RdI w B' ao l := fun k hk => by
  obtain ⟨b, off, e, hB, c⟩ := h k hk
  exact ⟨b, off, e, by omega, c⟩
theorem RdT.below {w w' : World} {B : Nat} {ao : Option Addr} {T : List (List Ins)} (h : RdT w B ao T) (hb : Below B w w') : RdT w' B ao T := fun t ht => by
  obtain ⟨b, off, a, c, e, hB, c0, c1, c2, r⟩ := h t ht
  exact ⟨b, off, a, c, e, hB, (hb.cell (p := ⟨b, _, none⟩) hB).trans c0, c1, c2, r.below hb⟩
theorem RdT.mono {w : World} {B B' : Nat} {ao : Option Addr} {T : List (List Ins)} (h : RdT w B ao T) (hb : B ≤ B') : RdT w B' ao T := fun t ht => by
  obtain ⟨b, off, a, c, e, hB, c0, c1, c2, r⟩ := h t ht
  exact ⟨b, off, a, c, e, by omega, c0, c1, c2, r.mono hb⟩

end Go.Proofs.Ytlcgighhiacnpaa
