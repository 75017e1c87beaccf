import Derived.Test.YtepjpdhmjchakaaGreatDoorQ9
/- read of any chunk; Check; what All hands back. Condition: the library's table of trailing noughts (TabW). -/
namespace Go.Proofs.YtepjpdhmjchakaaGreatDoor
open Go.RowKit
set_option linter.unusedVariables false

/-- A chunk's value; u is its slice of bytes. -/
def ckV (c : Cki) (u : Value) : Value := .agg #[.int .i64 c.f, .int .i64 c.t, .int .i64 c.n, u]
/-- What read says of a chunk. -/
def GaPost (w : World) (c : Cki) (e : Ending) (w' : World) : Prop :=
  (∃ (b : Bool) (ls : List Gz.Smp) (v : Value), e = .returned (.tuple #[v, .bool b]) ∧ w'.ownsRow w.heap.size 79 2 v ls.length (smCs ls) ∧ (∀ s ∈ ls, (-9223372036854775808 ≤ s.t ∧ s.t ≤ 9223372036854775807) ∧ s.v < 18446744073709551616) ∧ ls.length ≤ 120 ∧
    ((b = true ∧ rdo c = some ls) ∨ (b = false ∧ rdo c = none))) ∧ Below w.heap.size w w'
theorem gread_any (w : World) (c : Cki) (u : Value) (lo hi : Nat) (hu : Sl lo hi f8 w u c.d) (hhi : hi ≤ w.heap.size) (hT : TabW w) :
    Calls Tryz.prog 72 #[.agg #[.int .i64 c.f, .int .i64 c.t, .int .i64 c.n, u]] w fun e w' => GaPost w c e w' := by
  by_cases hN : 1 ≤ c.n ∧ c.n ≤ 120
  · refine (gread_in w c.f c.t c.n u c.d lo hi hu hhi hN hT).mono ?_
    rintro e w' ⟨⟨b, ls, v, h1, h2, h3, h4, h5⟩, h6⟩
    refine ⟨⟨b, ls, v, h1, h2, h3, h4, ?_⟩, h6⟩
    rcases h5 with ⟨h5, h7⟩ | ⟨h5, h7⟩
    · exact .inl ⟨h5, rdo_some.2 h7⟩
    · exact .inr ⟨h5, rdo_none.2 h7⟩
  · refine (read_out w c.f c.t c.n u (by omega)).mono ?_
    rintro e w' ⟨h1, h2⟩
    refine ⟨⟨false, [], _, h1, World.ownsRow_nil _ _ _ _, by simp, by simp, .inr ⟨rfl, rdo_none.2 ?_⟩⟩, h2⟩
    rintro ⟨ls, h3, h4, _⟩
    exact hN ⟨h3, h4⟩

set_option maxRecDepth 100000 in
theorem check_any (w : World) (c : Cki) (u : Value) (lo hi : Nat) (hu : Sl lo hi f8 w u c.d) (hhi : hi ≤ w.heap.size) (hT : TabW w) :
    Calls Tryz.prog 25 #[.agg #[.int .i64 c.f, .int .i64 c.t, .int .i64 c.n, u]] w fun e w' => (∃ er : Int, e = .returned (.int .u16 er) ∧ ((er = 0 ∧ ∃ ls, rdo c = some ls) ∨ (er = 101 ∧ rdo c = none))) ∧ Below w.heap.size w w' := by
  have hlb : 1 < w.heap.size := block_lt_of_cell (hT 0 (by omega))
  obtain ⟨Wa, hWa⟩ : ∃ Wa, w.alloc (.cells #[.int .i64 c.f, .int .i64 c.t, .int .i64 c.n, u] 26) = Wa := ⟨_, rfl⟩
  have hba : Below w.heap.size w Wa := by rw [← hWa]; exact (Below.refl _ _).alloc (Nat.le_refl _) _
  have hbx : Wa.heap[w.heap.size]? = some (.cells #[.int .i64 c.f, .int .i64 c.t, .int .i64 c.n, u] 26 (0, 0)) := by rw [← hWa]; exact heap_alloc_new w _
  obtain ⟨k0, k1, k2, k3, kz⟩ := box4 hbx
  have HBA := Lib.hid hba
  have HU := Lib.hid (hu.below hba hhi)
  have HT := Lib.hid (hT.below hba hlb)
  obtain ⟨ao, cap, rfl, hsl⟩ := hu
  clear hba hbx hsl hT
  go_enter Tryz.func25, Tryz.ntmps25
  go_wp2_with fail
  refine Calls.mono (by exact gread_any Wa c _ lo hi HU.out (Nat.le_trans hhi HBA.out.size) HT.out) ?_
  rintro e w1 ⟨⟨b, ls, v, rfl, ho, hf, hl, hc⟩, hb⟩
  have HB := Lib.hid (HBA.out.trans (hb.mono HBA.out.size))
  clear ho hf hl hb
  cases b
  · have HR := Lib.hid (show rdo c = none by
      rcases hc with ⟨h, _⟩ | ⟨_, h⟩
      · cases h
      · exact h)
    clear hc
    go_wp2
    go_ret
    exact ⟨⟨101, rfl, .inr ⟨rfl, HR.out⟩⟩, HB.out⟩
  · have HR := Lib.hid (show rdo c = some ls by
      rcases hc with ⟨_, h⟩ | ⟨h, _⟩
      · exact h
      · cases h)
    clear hc
    go_wp2
    go_ret
    exact ⟨⟨0, rfl, .inl ⟨rfl, ls, HR.out⟩⟩, HB.out⟩

/-- What All hands back: the boxes of the samples and of whether the chunk is one; both, and the row, lie between the two worlds. -/
def AllPost (w : World) (c : Cki) (e : Ending) (w' : World) : Prop :=
  ∃ (Bl Bi : Nat) (b : Bool) (ls : List Gz.Smp) (ao : Option Addr) (cap : Nat), e = .returned (.func (.func 73) #[] #[.pointer (some ⟨Bl, 0, none⟩), .pointer (some ⟨Bi, 0, none⟩)]) ∧ w.heap.size ≤ Bl ∧ w.heap.size ≤ Bi ∧ 
    w'.heap[Bl]? = some (.cells #[.slice ao ls.length cap] 22 (0, 0)) ∧ w'.heap[Bi]? = some (.cells #[.bool b] 4 (0, 0)) ∧ w'.ownsRow w.heap.size 79 2 (.slice ao ls.length cap) ls.length (smCs ls) ∧ ls.length ≤ 120 ∧
    (∀ s ∈ ls, (-9223372036854775808 ≤ s.t ∧ s.t ≤ 9223372036854775807) ∧ s.v < 18446744073709551616) ∧ ((b = true ∧ rdo c = some ls) ∨ (b = false ∧ rdo c = none)) ∧ Below w.heap.size w w'
set_option maxRecDepth 100000 in
theorem allm_any (w : World) (c : Cki) (u : Value) (lo hi : Nat) (hu : Sl lo hi f8 w u c.d) (hhi : hi ≤ w.heap.size) (hT : TabW w) :
    Calls Tryz.prog 26 #[.agg #[.int .i64 c.f, .int .i64 c.t, .int .i64 c.n, u]] w fun e w' => AllPost w c e w' := by
  have hmf : ∀ (fn : Fn) (first cap : Array Value) (w : World), (Instr.makeFunc fn first cap).run Tryz.prog w = .ok (.func fn first cap) w := fun _ _ _ _ => rfl
  have hlb : 1 < w.heap.size := block_lt_of_cell (hT 0 (by omega))
  obtain ⟨Wa, hWa⟩ : ∃ Wa, w.alloc (.cells #[.int .i64 c.f, .int .i64 c.t, .int .i64 c.n, u] 26) = Wa := ⟨_, rfl⟩
  have hba : Below w.heap.size w Wa := by rw [← hWa]; exact (Below.refl _ _).alloc (Nat.le_refl _) _
  have hbx : Wa.heap[w.heap.size]? = some (.cells #[.int .i64 c.f, .int .i64 c.t, .int .i64 c.n, u] 26 (0, 0)) := by rw [← hWa]; exact heap_alloc_new w _
  have hsa : Wa.heap.size = w.heap.size + 1 := by rw [← hWa]; simp
  obtain ⟨k0, k1, k2, k3, kz⟩ := box4 hbx
  have HBA := Lib.hid hba
  have HSA := Lib.hid hsa
  have HU := Lib.hid (hu.below hba hhi)
  have HT := Lib.hid (hT.below hba hlb)
  obtain ⟨ao, cap, rfl, hsl⟩ := hu
  clear hba hbx hsl hT hsa
  go_enter Tryz.func26, Tryz.ntmps26
  go_wp2_with fail
  refine Calls.mono (by exact gread_any Wa c _ lo hi HU.out (Nat.le_trans hhi HBA.out.size) HT.out) ?_
  rintro e w1 ⟨⟨b, ls, v, rfl, ho, hf, hl, hc⟩, hb⟩
  obtain ⟨ao1, cap1, rfl⟩ := own_slice ho
  have HO := Lib.hid ho
  have HF := Lib.hid hf
  have HC := Lib.hid hc
  have hs1 := hb.size
  have HB := Lib.hid (HBA.out.trans (hb.mono HBA.out.size))
  clear ho hf hb hc
  go_wp2
  go_ret
  have hs2 := HSA.out
  have q1 := heap_alloc_new w1 (.cells #[.slice ao1 ls.length cap1] 22)
  have q2 := heap_alloc_new (w1.alloc (.cells #[.slice ao1 ls.length cap1] 22)) (.cells #[.bool b] 4)
  rw [World.size_alloc] at q2
  refine ⟨w1.heap.size, w1.heap.size + 1, b, ls, ao1, cap1, rfl, by omega, by omega, (Below.heap_alloc _ _ _ (by simp)).trans q1, q2, ((own_low HO.out (by omega)).alloc _).alloc _, hl, HF.out, HC.out, (HB.out.alloc (by omega) _).alloc (by simp; omega) _⟩
end Go.Proofs.YtepjpdhmjchakaaGreatDoor
