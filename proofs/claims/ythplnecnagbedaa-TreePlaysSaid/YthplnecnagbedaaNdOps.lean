/- New, find, Get, Put, Take, Keys, Order, Counts of a node, each by its contract; conditions: the node is one, and lies in memory. -/
import Derived.Test.YthplnecnagbedaaNdFind
import Derived.Maps.AppendAt
import Derived.StillTailTactics
namespace Go.Proofs.Ythplnecnagbedaa
open Go.RowKit

theorem slot_pv {N : Nd} (_h : NdOk N) {i : Nat} (hi : i < 15) : (pv (N.x % 16 :: slotsL N.x))[1 + i]? = some (.int .i64 (N.slot i : Nat)) := by
  refine pv_get ?_
  have h3 : i < (slotsL N.x).length := by rw [slots_len]; exact hi
  rw [Nat.add_comm, List.getElem?_cons_succ]
  simp [Nd.slot, Nd.l, List.getD, h3]

theorem slice85h (W : World) (b h : Nat) (h2 : h ≤ 15) :
    (Instr.sliceAt 85 (.pointer (some ⟨b, 1, none⟩)) none (some (.int .i64 (h : Int))) none).run Try.prog W = .ok (.slice (some ⟨b, 1, none⟩) h 15) W := by
  have hu : Try.prog.underlying 85 = some (.array (Try.prog.arrayLen 85) (Try.prog.elem 85)) := by kernel_rfl
  have hn : Try.prog.arrayLen 85 = 15 := by kernel_rfl
  have hs : ∀ w, (sizeOf (Try.prog.elem 85)).run Try.prog w = .ok 1 w := fun w => by
    have h3 : (Try.prog.info? (Try.prog.elem 85)).map (·.size) = some 1 := by kernel_rfl
    cases hq : Try.prog.info? (Try.prog.elem 85) with
    | none => simp [hq] at h3
    | some i =>
      have : i.size = 1 := by simpa [hq] using h3
      simp [sizeOf, typeInfo, hq, this]
  rw [run_sliceAt_array_h W 85 ⟨b, 1, none⟩ hu .i64 h (by omega) (by rw [hn]; omega), hs, hn]
  simp only [Result.andThen_ok, slicedAt, Int.toNat_natCast, Nat.mul_one]
  have e : ¬ (15 = 0) := by omega
  simp [Addr.add]
/-- The parts of a word in a variable of their own. -/
structure PartsIn (w : World) (x : Nat) (pb : Nat) (w' : World) : Prop where
  below : Below w.heap.size w w'
  blk : Blk w' pb 87 (pv (x % 16 :: slotsL x))
  lt : w.heap.size ≤ pb
theorem partsIn {w w2 : World} {x : Nat} (hb : Below w.heap.size w w2) (old : Array Value) : PartsIn w x w2.heap.size ((w2.alloc (.cells old 87)).setRow w2.heap.size (pv (x % 16 :: slotsL x))) :=
  ⟨below_setRow (hb.alloc hb.size _) hb.size _, (Blk.new w2 87 old).setRow _, hb.size⟩

set_option maxRecDepth 100000 in
theorem find_any (w : World) (g : Nat) (N : Nd) (hok : NdOk N) (hN : Blk w g 95 (ndCells N)) (k : ByteArray) :
    Calls Try.prog 58 #[.pointer (some ⟨g, 0, none⟩), .string k] w fun e w' => e = .returned (.tuple #[.int .i64 (lbE N.ents k : Nat), .int .i64 (findM N k).2]) ∧ Below w.heap.size w w' := by
  have hA := fun W => apartL W N.x hok.lt
  have hu15 := hok.u15
  have hle := lbE_le N.ents k
  rw [ents_len] at hle
  have hslot := fun i (hi : i < 15) => slot_pv hok hi
  have hsl := fun i (hi : i < 15) => slot_lt hok hi
  have hlt : hasE N.ents k = true → lbE N.ents k < N.u := fun h => by have := has_lt h; rwa [ents_len] at this
  have c0 : w.cell? ⟨g, 0, none⟩ = some (.int .u64 N.x) := hN.at 0 nd_at0
  have hgl := hN.lt
  have hb1 : Below w.heap.size w (w.alloc (.cells #[.pointer (some ⟨g, 0, none⟩)] 32)) := (Below.refl _ w).alloc (Nat.le_refl _) _
  have hbx : Blk (w.alloc (.cells #[.pointer (some ⟨g, 0, none⟩)] 32)) w.heap.size 32 #[.pointer (some ⟨g, 0, none⟩)] := Blk.new _ _ _
  have hs1 : (w.alloc (.cells #[.pointer (some ⟨g, 0, none⟩)] 32)).heap.size = w.heap.size + 1 := by simp
  have HS := Lib.hid hslot
  have HSL := Lib.hid hsl
  have HN := Lib.hid hN
  have HB1 := Lib.hid hb1
  have HBX := Lib.hid hbx
  have HS1 := Lib.hid hs1
  have hsa := fun W pb h1 h2 h3 => search_any W pb w.heap.size g N hok h1 h2 h3 k
  have hf2 : (findM N k).2 = if hasE N.ents k then (N.slot (lbE N.ents k) : Int) else -1 := rfl
  generalize (findM N k).2 = F at hf2 ⊢
  have HF2 := Lib.hid hf2
  have hone := pv_one (N.x % 16 :: slotsL N.x)
  have hsz : (pv (N.x % 16 :: slotsL N.x)).size = 16 := by rw [pv_size, List.length_cons, slots_len]
  have hr := row87
  rw [← hsz] at hr
  have HSZ := Lib.hid hsz
  clear hslot hsl hN hok hf2 hb1 hbx hs1 hsz
  generalize lbE N.ents k = at_ at *
  generalize hasE N.ents k = hs at *
  go_enter Try.func58, Try.ntmps58
  go_upto_region 2 with (first
    | (go_at_call 53; refine (hA _).mono ?_; rintro e w2 ⟨rfl, b2⟩)
    | (refine wpList_store_blk rfl 87 _ _ rfl w2.heap.size (pv (N.x % 16 :: slotsL N.x)) rfl rfl (Blk.new w2 87 _) hr (by rw [HSZ.out]; rfl) hone ?_))
  simp only [Act.put]
  have hPI := partsIn (x := N.x) b2 #[Value.int .i64 0, Value.int .i64 0, Value.int .i64 0, Value.int .i64 0, Value.int .i64 0, Value.int .i64 0, Value.int .i64 0, Value.int .i64 0, Value.int .i64 0, Value.int .i64 0, Value.int .i64 0, Value.int .i64 0, Value.int .i64 0, Value.int .i64 0, Value.int .i64 0, Value.int .i64 0]
  generalize hW : (w2.alloc (Obj.cells #[Value.int .i64 0, Value.int .i64 0, Value.int .i64 0, Value.int .i64 0, Value.int .i64 0, Value.int .i64 0, Value.int .i64 0, Value.int .i64 0, Value.int .i64 0, Value.int .i64 0, Value.int .i64 0, Value.int .i64 0, Value.int .i64 0, Value.int .i64 0, Value.int .i64 0, Value.int .i64 0] 87)).setRow w2.heap.size (pv (N.x % 16 :: slotsL N.x)) = w3 at hPI ⊢
  clear hW
  generalize w2.heap.size = pb at hPI ⊢
  clear b2
  have p0 := hPI.blk.at 0 (pv_get (x := N.u) rfl)
  have hsl85 := fun W => slice85h W pb N.u hu15
  have hNn := HN.out.below (HB1.out.trans (hPI.below.mono (by rw [HS1.out]; omega))) hgl
  have hbc := (HBX.out.below hPI.below (by rw [HS1.out]; omega)).at 0 rfl
  have hsr := hsa w3 pb hbc hNn (fun i hi => hPI.blk.at (1 + i) (HS.out i (by omega)))
  have hbel : Below w.heap.size w w3 := HB1.out.trans (hPI.below.mono (by rw [HS1.out]; omega))
  have HBEL := Lib.hid hbel
  have hps := fun i (hi : i < 15) => hPI.blk.at (1 + i) (HS.out i hi)
  have HPS := Lib.hid hps
  clear hA hsa hNn hbc hbel hps hPI
  cases hs with
  | true =>
    have hlu := hlt rfl
    have cp := HPS.out at_ (by omega)
    have hslt := HSL.out at_ (by omega)
    have hF : F = (N.slot at_ : Int) := HF2.out.trans (if_pos rfl)
    clear HF2
    generalize N.slot at_ = sl at cp hslt hF
    have HF := Lib.hid hF
    clear hF
    clear hlt
    go_upto_region 6 with (go_at_call 74; refine hsr.mono ?_; rintro e w4 ⟨rfl, rfl⟩)
    go_quiet (fail)
    go_wp2_with fail
    go_ret2
    exact ⟨by rw [HF.out]; rfl, below_drewN HBEL.out _⟩
  | false =>
    have hF : F = -1 := HF2.out.trans (if_neg (by simp))
    clear HF2 hlt
    have HF := Lib.hid hF
    clear hF
    go_wp2_with (go_at_call 74; refine hsr.mono ?_; rintro e w4 ⟨rfl, rfl⟩)
    go_ret2
    exact ⟨by rw [HF.out]; rfl, HBEL.out⟩

end Go.Proofs.Ythplnecnagbedaa
