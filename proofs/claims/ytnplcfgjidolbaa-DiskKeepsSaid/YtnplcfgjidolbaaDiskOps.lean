/- The disk's small functions: a new one, a trip, is it dark, its counts, a sector of a byte. -/
import Derived.Test.YtnplcfgjidolbaaDiskState
import Derived.Test.YtnplcfgjidolbaaWriter2
import Derived.OwnWalk
import Derived.Deep.OwnRows
namespace Go.Proofs.Ytnplcfgjidolbaa
open Go.RowKit Go.Maps

theorem und160 : Try.prog.underlying 160 = some (.slice 168) := by kernel_rfl
theorem info168 : (Try.prog.info? 168).map (fun i => (i.size, i.bytes)) = some (256, 256) := by kernel_rfl
theorem zero168 : (Try.prog.info? 168).map (fun i => i.zero) = some (some (.agg (Array.replicate 256 (.int .u8 0)))) := by kernel_rfl
theorem made_bytes (n : Nat) : (madeCells (Array.replicate 256 (Value.int .u8 0)) n).toList = List.replicate n (.int .u8 0) := by
  apply List.ext_getElem
  · simp [madeCells]
  · intro i h1 h2
    simp [madeCells]
    have : i % 256 < 256 := Nat.mod_lt _ (by omega)
    simp [this]

/-- A new disk. -/
def newDsk (n : Nat) : Dsk := { ls := List.replicate n (List.replicate 256 0), cs := [], dark := false, trip := -1, rd := 0, wr := 0, fl := 0 }
theorem sec_zero : sec (List.replicate 256 0) = List.replicate 256 (.int .u8 0) := by
  unfold sec
  rw [List.map_replicate]
  rfl
theorem flat_zero (n : Nat) : (List.replicate n (List.replicate 256 (0 : UInt8))).flatMap sec = List.replicate (n * 256) (.int .u8 0) := by
  induction n with
  | zero => rfl
  | succ n ih => rw [List.replicate_succ, List.flatMap_cons, ih, sec_zero, Nat.succ_mul, Nat.add_comm (n * 256) 256, ← List.replicate_append_replicate]
theorem newDsk_ok (n : Nat) : (newDsk n).ok := by
  refine ⟨fun s hs => ?_, fun c hc => by cases hc⟩
  have := (List.mem_replicate.1 hs).2
  rw [this, List.length_replicate]

set_option maxRecDepth 100000 in
theorem dnew_any (w : World) (n : Int) (h1 : 1 ≤ n) (h2 : n ≤ 16384) :
    Calls Try.prog 29 #[.int .i64 n] w fun e w' => ∃ B lb bm, e = .returned (.tuple #[.pointer (some ⟨B, 0, none⟩), .int .u16 0]) ∧ Dk w' w.heap.size B lb bm (.slice none 0 0) (newDsk n.toNat) ∧ Below w.heap.size w w' := by
  obtain ⟨m, rfl⟩ := Int.eq_ofNat_of_zero_le (show 0 ≤ n by omega)
  obtain ⟨i0, hi0, hi1⟩ := Option.map_eq_some_iff.1 info168
  obtain ⟨i0', hi0', hz0⟩ := Option.map_eq_some_iff.1 zero168
  rw [hi0] at hi0'
  injection hi0' with hi0'
  subst hi0'
  simp only [Prod.mk.injEq] at hi1
  obtain ⟨hs0, hb0⟩ := hi1
  have hmk : ∀ w : World, (Instr.makeMap 161 none).run Try.prog w = .ok (.map (some w.heap.size)) (w.alloc (.map #[] 0)) := fun _ => rfl
  go_enter Try.func29, Try.ntmps29
  go_wp2_with (at_make; refine wpList_make_full _ rfl _ _ 160 rfl w.heap.size 168 i0 (.agg (Array.replicate 256 (.int .u8 0))) 256 und160 hi0 hz0 hs0 .i64 .i64 _ _ m rfl rfl rfl rfl (by rw [hb0]; omega) (by unfold maxLen; omega) (Nat.le_refl _) ?_; intro w1 hown1 hgrow1; have HO1 := Lib.hid hown1; have HG1 := Lib.hid hgrow1; clear hown1 hgrow1)
  go_ret2
  have hh : w1.heap[w.heap.size]? = some (.cells (List.replicate (m * 256) (Value.int .u8 0)).toArray 168 (0, 0)) := by
    obtain ⟨_, h | ⟨g, cap, cur, hv, _, hh, _, _, h3, h4⟩⟩ := HO1.out
    · simp at h
    · simp only [Value.slice.injEq, Option.some.injEq, Addr.mk.injEq, and_true, true_and] at hv
      obtain ⟨rfl, rfl⟩ := hv
      have e : (Value.agg (Array.replicate 256 (Value.int .u8 0))).cells = Array.replicate 256 (Value.int .u8 0) := rfl
      rw [e, made_bytes, List.take_of_length_le (by simp; omega)] at h4
      rw [hh, ← h4]
  have hw1 : w.heap.size < w1.heap.size := heap_lt' hh
  have b1 : Below w.heap.size w w1 := (Below.refl _ _).grown HG1.out (Nat.le_refl _) (fun k hk => by cases hk)
  refine ⟨w1.heap.size + 1, w.heap.size, w1.heap.size, rfl, ⟨?_, ?_, World.ownsRow_nil _ _ _ _, ⟨.map [], ?_, seen_nil⟩, newDsk_ok _, by omega, Nat.le_refl _, by omega⟩, ?_⟩
  · have e : (w1.alloc (.map #[] 0)).heap.size = w1.heap.size + 1 := by simp
    rw [← e, heap_alloc_new]
    simp [dkTop, newDsk]
  · rw [Below.heap_alloc _ _ _ (by simp; omega), Below.heap_alloc _ _ _ hw1, hh]
    simp only [newDsk, Int.toNat_natCast]
    rw [flat_zero]
  · exact (World.ownsMap_made w1 Try.prog 3 (plainElem Try.prog 3)).alloc _
  · exact (b1.alloc (by omega) _).alloc (by simp; omega) _
set_option maxRecDepth 100000 in
theorem dnew_bad (w : World) (n : Int) (h : n < 1 ∨ 16384 < n) :
    Calls Try.prog 29 #[.int .i64 n] w fun e w' => e = .returned (.tuple #[.pointer none, .int .u16 50]) ∧ w = w' := by
  rcases h with h | h
  all_goals
    go_enter Try.func29, Try.ntmps29
    go_wp2
    go_ret2
    exact ⟨rfl, rfl⟩

theorem struct101 : ∃ fs, Try.prog.underlying 101 = some (.struct fs) := by
  have h : (match Try.prog.underlying 101 with | some (.struct _) => true | _ => false) = true := by kernel_rfl
  split at h
  · next fs e => exact ⟨fs, e⟩
  · cases h
theorem size101 : (Try.prog.info? 101).map (·.size) = some 3 := by kernel_rfl
section
variable {w : World} {base B lb bm : Nat} {cv : Value} {d : Dsk}
theorem dark_any (h : Dk w base B lb bm cv d) : Calls Try.prog 34 #[.pointer (some ⟨B, 0, none⟩)] w fun e w' => e = .returned (.bool d.dark) ∧ w = w' := by
  obtain ⟨c0, c1, c2, c3, c4, c5, c6, c7, fz⟩ := h.cells
  clear h
  go_enter Try.func34, Try.ntmps34
  go_wp2
  go_ret
  exact ⟨rfl, rfl⟩
set_option maxRecDepth 100000 in
theorem counts_any (h : Dk w base B lb bm cv d) : Calls Try.prog 36 #[.pointer (some ⟨B, 0, none⟩)] w fun e w' => e = .returned (.agg #[.int .i64 d.rd, .int .i64 d.wr, .int .i64 d.fl]) ∧ Below w.heap.size w w' := by
  obtain ⟨c0, c1, c2, c3, c4, c5, c6, c7, fz⟩ := h.cells
  have hB := heap_lt' h.top
  have d5 : (w.alloc (.cells #[.int .i64 0, .int .i64 0, .int .i64 0] 101)).cell? ⟨B, 5, none⟩ = some (.int .i64 d.rd) := (World.cell?_of_block (Below.heap_alloc _ _ _ hB)).trans c5
  have d6 : (w.alloc (.cells #[.int .i64 0, .int .i64 0, .int .i64 0] 101)).cell? ⟨B, 6, none⟩ = some (.int .i64 d.wr) := (World.cell?_of_block (Below.heap_alloc _ _ _ hB)).trans c6
  have d7 : (w.alloc (.cells #[.int .i64 0, .int .i64 0, .int .i64 0] 101)).cell? ⟨B, 7, none⟩ = some (.int .i64 d.fl) := (World.cell?_of_block (Below.heap_alloc _ _ _ hB)).trans c7
  clear h
  go_enter Try.func36, Try.ntmps36
  go_wp2
  obtain ⟨fs, hu⟩ := struct101
  refine bodyPost_ret (results_cell_row Try.results36 _ _ w.heap.size 101 _ (0, 0) (.struct fs) rfl (heap_alloc_new _ _) hu rfl size101) rfl ?_
  exact ⟨rfl, (Below.refl _ _).alloc (Nat.le_refl _) _⟩
/-- A trip. -/
def Dsk.tripped (d : Dsk) (n : Int) : Dsk × Int := if n < 0 then (d, 1) else if d.dark then (d, 4) else ({ d with trip := n }, 0)
set_option maxRecDepth 100000 in
theorem trip_any (h : Dk w base B lb bm cv d) (n : Int) : Calls Try.prog 31 #[.pointer (some ⟨B, 0, none⟩), .int .i64 n] w fun e w' => e = .returned (.int .u16 (d.tripped n).2) ∧ Dk w' base B lb bm cv (d.tripped n).1 ∧ Dfr base w w' := by
  obtain ⟨c0, c1, c2, c3, c4, c5, c6, c7, fz⟩ := h.cells
  have HD := Lib.hid h
  clear h
  unfold Dsk.tripped
  by_cases hn : n < 0
  · rw [if_pos hn]
    go_enter Try.func31, Try.ntmps31
    go_wp2
    go_ret
    exact ⟨rfl, HD.out, Dfr.refl _ _⟩
  · rw [if_neg hn]
    have hn0 : 0 ≤ n := by omega
    cases hd : d.dark
    · rw [hd] at c3
      go_enter Try.func31, Try.ntmps31
      go_wp2
      go_ret
      refine ⟨rfl, ?_, ?_⟩
      · have q := HD.out.retop (w' := w.setCell ⟨B, 4, none⟩ (.int .i64 n)) (dark := false) (trip := n) (rd := d.rd) (wr := d.wr) (fl := d.fl) (by rw [heap_setCell_same _ _ _ _ _ _ HD.out.top]; unfold dkTop; rw [hd]; rfl) (fun k hk => heap_setCell_other _ _ _ _ hk)
        exact q
      · exact Dfr.one HD.out.top (.inl rfl) HD.out.lo.1 rfl rfl rfl (by simp) (fun k hk => heap_setCell_other _ _ _ _ hk)
    · rw [hd] at c3
      go_enter Try.func31, Try.ntmps31
      go_wp2
      go_ret
      exact ⟨rfl, by simpa using HD.out, Dfr.refl _ _⟩
end

set_option maxRecDepth 100000 in
theorem sector_any (w : World) (x : UInt8) (z : Int) (hz : z = W8 x) : Calls Try.prog 33 #[.int .u8 z] w fun e w' => ∃ v, e = .returned v ∧ w'.ownsRow w.heap.size 5 1 v 256 ((List.replicate 256 x).map f8) ∧ Below w.heap.size w w' := by
  subst hz
  obtain ⟨i0, hi0, hz0, hz1, hz2⟩ := info_parts info5
  go_enter Try.func33, Try.ntmps33
  go_wp2_with (at_make; refine wpList_make_full _ rfl _ _ 22 rfl w.heap.size 5 i0 (.int .u8 0) 1 Try.underlying22 hi0 hz0 hz1 .i64 .i64 _ _ 256 rfl rfl rfl rfl (by rw [hz2]; omega) (by unfold maxLen; omega) (Nat.le_refl _) ?_; intro w1 hown1 hgrow1; have HO1 := Lib.hid hown1; have HG1 := Lib.hid hgrow1; clear hown1 hgrow1)
  go_loopw [4] (fun i wr => ∃ (k : Nat) (xs : List Value), k ≤ 256 ∧ i = .int .i64 k ∧ wr.ownsRow w.heap.size 5 1 (.slice (some ⟨w.heap.size, 0, none⟩) 256 256) 256 xs ∧ xs.take k = List.replicate k (f8 x) ∧ Below w.heap.size w wr) (fun i _ => 256 - (intOf i).toNat)
  case atStart => exact ⟨0, _, by omega, rfl, HO1.out, by simp, (Below.refl _ _).grown HG1.out (Nat.le_refl _) (fun k hk => by cases hk)⟩
  case round =>
    obtain ⟨k, xs, hk, rfl, hown, htk, hbel⟩ := hrel
    have HO := Lib.hid hown
    have HT := Lib.hid htk
    have HBel := Lib.hid hbel
    have hlen := hown.1
    by_cases hlt : k < 256
    · obtain ⟨u0, hc2⟩ : ∃ u0, wr.cell? ⟨w.heap.size, k, none⟩ = some u0 := ⟨_, (hown.cellAt k (by omega)).trans (List.getElem?_eq_getElem (by omega))⟩
      have hf2 := hown.frozenAt k
      have j2 : (0 : Int) ≤ (k : Int) ∧ (k : Int) < 256 := by omega
      clear hown htk hbel
      go_wp2
      go_roundw
      case rel =>
        have hs := HO.out.stored k (f8 x)
        refine ⟨k + 1, _, by omega, by push_cast; rfl, hs.1, ?_, HBel.out.grown hs.2 (HBel.out.size) (fun q hq => by injection hq with hq; omega)⟩
        rw [List.take_succ_eq_append_getElem (by simp; omega)]
        simp [List.take_set_of_le, HT.out, List.replicate_succ']
      case measure => simp [intOf]; omega
    · obtain rfl : k = 256 := by omega
      clear hown htk hbel
      go_wp2
      go_ret
      refine ⟨_, rfl, ?_, HBel.out⟩
      have ht := HT.out
      rw [List.take_of_length_le (by omega)] at ht
      rw [List.map_replicate, ← ht]
      exact HO.out
end Go.Proofs.Ytnplcfgjidolbaa
