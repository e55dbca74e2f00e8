/- A clock as numbers and lists: what its calls answer, and what becomes of it; conditions: none. -/
import Derived.Below
namespace Go.Proofs.Ytmmaklddbkdenaa

/-- A clock without its things: of each worker its epoch (0: idle), every, the global epoch, the snapshot epoch. -/
structure Ck where
  ws : List Int
  every : Int
  glob : Int
  snap : Int

/-- May worker i not turn to epoch ep? -/
def turnBad (ws : List Int) (i ep : Int) : Bool := decide (i < 0) || decide ((ws.length : Int) ≤ i) || (decide (0 < ws.getD i.toNat 0) == decide (0 < ep))
def turnE (ws : List Int) (i ep : Int) : Int := if turnBad ws i ep then 100 else 0
def turnW (ws : List Int) (i ep : Int) : List Int := if turnBad ws i ep then ws else ws.set i.toNat ep
def enterN (k : Ck) (i : Int) : Int := if turnBad k.ws i k.glob then 0 else k.glob
/-- Does a worker work at an epoch of which p is so? -/
def worksP (ws : List Int) (p : Int → Bool) : Bool := ws.any fun n => decide (0 < n) && p n
def advBehind (k : Ck) : Bool := worksP k.ws fun n => decide (n < k.glob)
def advOk (k : Ck) : Bool := !decide (2147483648 ≤ k.glob) && !advBehind k
def advE (k : Ck) : Int := if 2147483648 ≤ k.glob then 1 else 0
def advSnap (k : Ck) : Int := if (k.glob + 1) % k.every = 0 then max k.snap (k.glob - 1) else k.snap
def adv (k : Ck) : Ck := if advOk k then { k with glob := k.glob + 1, snap := advSnap k } else k
def turnK (k : Ck) (i ep : Int) : Ck := { k with ws := turnW k.ws i ep }

/-- What a clock's numbers are bounded by. -/
structure Ck.Ok (k : Ck) : Prop where
  len : k.ws.length ≤ 16
  e1 : 1 ≤ k.every
  e2 : k.every ≤ 4096
  g1 : 1 ≤ k.glob
  g2 : k.glob ≤ 2147483648
  s1 : 0 ≤ k.snap
  s2 : k.snap ≤ 2147483648

theorem turnW_len (ws : List Int) (i ep : Int) : (turnW ws i ep).length = ws.length := by
  unfold turnW; split <;> simp
theorem turnK_ok {k : Ck} (h : k.Ok) (i ep : Int) : (turnK k i ep).Ok := ⟨by simpa [turnK, turnW_len] using h.len, h.e1, h.e2, h.g1, h.g2, h.s1, h.s2⟩
theorem turn_bad {k : Ck} {i ep : Int} (h : turnBad k.ws i ep = true) : turnE k.ws i ep = 100 ∧ turnK k i ep = k := by
  simp [turnE, turnK, turnW, h]
theorem turn_good {k : Ck} {i ep : Int} (h : turnBad k.ws i ep = false) : turnE k.ws i ep = 0 ∧ turnK k i ep = { k with ws := k.ws.set i.toNat ep } := by
  simp [turnE, turnK, turnW, h]
theorem adv_ok {k : Ck} (h : k.Ok) : (adv k).Ok := by
  have := h.g1; have := h.g2; have := h.s1; have := h.s2
  unfold adv
  by_cases hb : advOk k = true
  · rw [if_pos hb]
    have hg : ¬ 2147483648 ≤ k.glob := by
      intro hg
      simp [advOk, hg] at hb
    refine ⟨h.len, h.e1, h.e2, by show (1 : Int) ≤ k.glob + 1; omega, by show k.glob + 1 ≤ 2147483648; omega, ?_, ?_⟩
    · show 0 ≤ advSnap k
      unfold advSnap; split <;> omega
    · show advSnap k ≤ 2147483648
      unfold advSnap; split <;> omega
  · rw [if_neg hb]; exact h

end Go.Proofs.Ytmmaklddbkdenaa
