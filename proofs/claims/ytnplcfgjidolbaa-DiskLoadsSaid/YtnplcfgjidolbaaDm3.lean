/- The disk's small functions: a new one, a trip, is it dark, its counts, a sector of a byte. Values of many cells: how a write of the cache is built. The program's bit reader: its contracts. A write into the cache: the state while it is built, lengthened and stored. -/
import Derived.Test.YtnplcfgjidolbaaDm2
import Derived.OwnWalk
import Derived.Deep.OwnRows
import Derived.Great.BuildSlice
import Derived.Deep.QuietTactic
import Derived.BigQuiet
section
namespace Go.Proofs.Ytnplcfgjidolbaa
open Go.RowKit Go.Maps

theorem und160 : Try.prog.underlying 160 = some (.slice 168) := by kernel_rfl
theorem info168 : (Try.prog.info? 168).map (fun i => (i.size, i.bytes)) = some (256, 256) := by kernel_rfl
theorem zero168 : (Try.prog.info? 168).map (fun i => i.zero) = some (some (.agg (Array.replicate 256 (.int .u8 0)))) := by kernel_rfl
theorem made_bytes (n : Nat) : (madeCells (Array.replicate 256 (Value.int .u8 0)) n).toList = List.replicate n (.int .u8 0) := by
  apply List.ext_getElem
  · simp [madeCells]
  · intro i h1 h2
    simp [madeCells]
    have : i % 256 < 256 := Nat.mod_lt _ (by omega)
    simp [this]

/-- A new disk. -/
def newDsk (n : Nat) : Dsk := { ls := List.replicate n (List.replicate 256 0), cs := [], dark := false, trip := -1, rd := 0, wr := 0, fl := 0 }
theorem sec_zero : sec (List.replicate 256 0) = List.replicate 256 (.int .u8 0) := by
  unfold sec
  rw [List.map_replicate]
  rfl
theorem flat_zero (n : Nat) : (List.replicate n (List.replicate 256 (0 : UInt8))).flatMap sec = List.replicate (n * 256) (.int .u8 0) := by
  induction n with
  | zero => rfl
  | succ n ih => rw [List.replicate_succ, List.flatMap_cons, ih, sec_zero, Nat.succ_mul, Nat.add_comm (n * 256) 256, ← List.replicate_append_replicate]
theorem newDsk_ok (n : Nat) : (newDsk n).ok := by
  refine ⟨fun s hs => ?_, fun c hc => by cases hc⟩
  have := (List.mem_replicate.1 hs).2
  rw [this, List.length_replicate]

set_option maxRecDepth 100000 in
theorem dnew_any (w : World) (n : Int) (h1 : 1 ≤ n) (h2 : n ≤ 16384) :
    Calls Try.prog 29 #[.int .i64 n] w fun e w' => ∃ B lb bm, e = .returned (.tuple #[.pointer (some ⟨B, 0, none⟩), .int .u16 0]) ∧ Dk w' w.heap.size B lb bm (.slice none 0 0) (newDsk n.toNat) ∧ Below w.heap.size w w' := by
  obtain ⟨m, rfl⟩ := Int.eq_ofNat_of_zero_le (show 0 ≤ n by omega)
  obtain ⟨i0, hi0, hi1⟩ := Option.map_eq_some_iff.1 info168
  obtain ⟨i0', hi0', hz0⟩ := Option.map_eq_some_iff.1 zero168
  rw [hi0] at hi0'
  injection hi0' with hi0'
  subst hi0'
  simp only [Prod.mk.injEq] at hi1
  obtain ⟨hs0, hb0⟩ := hi1
  have hmk : ∀ w : World, (Instr.makeMap 161 none).run Try.prog w = .ok (.map (some w.heap.size)) (w.alloc (.map #[] 0)) := fun _ => rfl
  go_enter Try.func29, Try.ntmps29
  go_wp2_with (at_make; refine wpList_make_full _ rfl _ _ 160 rfl w.heap.size 168 i0 (.agg (Array.replicate 256 (.int .u8 0))) 256 und160 hi0 hz0 hs0 .i64 .i64 _ _ m rfl rfl rfl rfl (by rw [hb0]; omega) (by unfold maxLen; omega) (Nat.le_refl _) ?_; intro w1 hown1 hgrow1; have HO1 := Lib.hid hown1; have HG1 := Lib.hid hgrow1; clear hown1 hgrow1)
  go_ret2
  have hh : w1.heap[w.heap.size]? = some (.cells (List.replicate (m * 256) (Value.int .u8 0)).toArray 168 (0, 0)) := by
    obtain ⟨_, h | ⟨g, cap, cur, hv, _, hh, _, _, h3, h4⟩⟩ := HO1.out
    · simp at h
    · simp only [Value.slice.injEq, Option.some.injEq, Addr.mk.injEq, and_true, true_and] at hv
      obtain ⟨rfl, rfl⟩ := hv
      have e : (Value.agg (Array.replicate 256 (Value.int .u8 0))).cells = Array.replicate 256 (Value.int .u8 0) := rfl
      rw [e, made_bytes, List.take_of_length_le (by simp; omega)] at h4
      rw [hh, ← h4]
  have hw1 : w.heap.size < w1.heap.size := heap_lt' hh
  have b1 : Below w.heap.size w w1 := (Below.refl _ _).grown HG1.out (Nat.le_refl _) (fun k hk => by cases hk)
  refine ⟨w1.heap.size + 1, w.heap.size, w1.heap.size, rfl, ⟨?_, ?_, World.ownsRow_nil _ _ _ _, ⟨.map [], ?_, seen_nil⟩, newDsk_ok _, by omega, Nat.le_refl _, by omega⟩, ?_⟩
  · have e : (w1.alloc (.map #[] 0)).heap.size = w1.heap.size + 1 := by simp
    rw [← e, heap_alloc_new]
    simp [dkTop, newDsk]
  · rw [Below.heap_alloc _ _ _ (by simp; omega), Below.heap_alloc _ _ _ hw1, hh]
    simp only [newDsk, Int.toNat_natCast]
    rw [flat_zero]
  · exact (World.ownsMap_made w1 Try.prog 3 (plainElem Try.prog 3)).alloc _
  · exact (b1.alloc (by omega) _).alloc (by simp; omega) _
set_option maxRecDepth 100000 in
theorem dnew_bad (w : World) (n : Int) (h : n < 1 ∨ 16384 < n) :
    Calls Try.prog 29 #[.int .i64 n] w fun e w' => e = .returned (.tuple #[.pointer none, .int .u16 50]) ∧ w = w' := by
  rcases h with h | h
  all_goals
    go_enter Try.func29, Try.ntmps29
    go_wp2
    go_ret2
    exact ⟨rfl, rfl⟩

theorem struct101 : ∃ fs, Try.prog.underlying 101 = some (.struct fs) := by
  have h : (match Try.prog.underlying 101 with | some (.struct _) => true | _ => false) = true := by kernel_rfl
  split at h
  · next fs e => exact ⟨fs, e⟩
  · cases h
theorem size101 : (Try.prog.info? 101).map (·.size) = some 3 := by kernel_rfl
section
variable {w : World} {base B lb bm : Nat} {cv : Value} {d : Dsk}
theorem dark_any (h : Dk w base B lb bm cv d) : Calls Try.prog 34 #[.pointer (some ⟨B, 0, none⟩)] w fun e w' => e = .returned (.bool d.dark) ∧ w = w' := by
  obtain ⟨c0, c1, c2, c3, c4, c5, c6, c7, fz⟩ := h.cells
  clear h
  go_enter Try.func34, Try.ntmps34
  go_wp2
  go_ret
  exact ⟨rfl, rfl⟩
set_option maxRecDepth 100000 in
theorem counts_any (h : Dk w base B lb bm cv d) : Calls Try.prog 36 #[.pointer (some ⟨B, 0, none⟩)] w fun e w' => e = .returned (.agg #[.int .i64 d.rd, .int .i64 d.wr, .int .i64 d.fl]) ∧ Below w.heap.size w w' := by
  obtain ⟨c0, c1, c2, c3, c4, c5, c6, c7, fz⟩ := h.cells
  have hB := heap_lt' h.top
  have d5 : (w.alloc (.cells #[.int .i64 0, .int .i64 0, .int .i64 0] 101)).cell? ⟨B, 5, none⟩ = some (.int .i64 d.rd) := (World.cell?_of_block (Below.heap_alloc _ _ _ hB)).trans c5
  have d6 : (w.alloc (.cells #[.int .i64 0, .int .i64 0, .int .i64 0] 101)).cell? ⟨B, 6, none⟩ = some (.int .i64 d.wr) := (World.cell?_of_block (Below.heap_alloc _ _ _ hB)).trans c6
  have d7 : (w.alloc (.cells #[.int .i64 0, .int .i64 0, .int .i64 0] 101)).cell? ⟨B, 7, none⟩ = some (.int .i64 d.fl) := (World.cell?_of_block (Below.heap_alloc _ _ _ hB)).trans c7
  clear h
  go_enter Try.func36, Try.ntmps36
  go_wp2
  obtain ⟨fs, hu⟩ := struct101
  refine bodyPost_ret (results_cell_row Try.results36 _ _ w.heap.size 101 _ (0, 0) (.struct fs) rfl (heap_alloc_new _ _) hu rfl size101) rfl ?_
  exact ⟨rfl, (Below.refl _ _).alloc (Nat.le_refl _) _⟩
/-- A trip. -/
def Dsk.tripped (d : Dsk) (n : Int) : Dsk × Int := if n < 0 then (d, 1) else if d.dark then (d, 4) else ({ d with trip := n }, 0)
set_option maxRecDepth 100000 in
theorem trip_any (h : Dk w base B lb bm cv d) (n : Int) : Calls Try.prog 31 #[.pointer (some ⟨B, 0, none⟩), .int .i64 n] w fun e w' => e = .returned (.int .u16 (d.tripped n).2) ∧ Dk w' base B lb bm cv (d.tripped n).1 ∧ Dfr base w w' := by
  obtain ⟨c0, c1, c2, c3, c4, c5, c6, c7, fz⟩ := h.cells
  have HD := Lib.hid h
  clear h
  unfold Dsk.tripped
  by_cases hn : n < 0
  · rw [if_pos hn]
    go_enter Try.func31, Try.ntmps31
    go_wp2
    go_ret
    exact ⟨rfl, HD.out, Dfr.refl _ _⟩
  · rw [if_neg hn]
    have hn0 : 0 ≤ n := by omega
    cases hd : d.dark
    · rw [hd] at c3
      go_enter Try.func31, Try.ntmps31
      go_wp2
      go_ret
      refine ⟨rfl, ?_, ?_⟩
      · have q := HD.out.retop (w' := w.setCell ⟨B, 4, none⟩ (.int .i64 n)) (dark := false) (trip := n) (rd := d.rd) (wr := d.wr) (fl := d.fl) (by rw [heap_setCell_same _ _ _ _ _ _ HD.out.top]; unfold dkTop; rw [hd]; rfl) (fun k hk => heap_setCell_other _ _ _ _ hk)
        exact q
      · exact Dfr.one HD.out.top (.inl rfl) HD.out.lo.1 rfl rfl rfl (by simp) (fun k hk => heap_setCell_other _ _ _ _ hk)
    · rw [hd] at c3
      go_enter Try.func31, Try.ntmps31
      go_wp2
      go_ret
      exact ⟨rfl, by simpa using HD.out, Dfr.refl _ _⟩
end

set_option maxRecDepth 100000 in
theorem sector_any (w : World) (x : UInt8) (z : Int) (hz : z = W8 x) : Calls Try.prog 33 #[.int .u8 z] w fun e w' => ∃ v, e = .returned v ∧ w'.ownsRow w.heap.size 5 1 v 256 ((List.replicate 256 x).map f8) ∧ Below w.heap.size w w' := by
  subst hz
  obtain ⟨i0, hi0, hz0, hz1, hz2⟩ := info_parts info5
  go_enter Try.func33, Try.ntmps33
  go_wp2_with (at_make; refine wpList_make_full _ rfl _ _ 22 rfl w.heap.size 5 i0 (.int .u8 0) 1 Try.underlying22 hi0 hz0 hz1 .i64 .i64 _ _ 256 rfl rfl rfl rfl (by rw [hz2]; omega) (by unfold maxLen; omega) (Nat.le_refl _) ?_; intro w1 hown1 hgrow1; have HO1 := Lib.hid hown1; have HG1 := Lib.hid hgrow1; clear hown1 hgrow1)
  go_loopw [4] (fun i wr => ∃ (k : Nat) (xs : List Value), k ≤ 256 ∧ i = .int .i64 k ∧ wr.ownsRow w.heap.size 5 1 (.slice (some ⟨w.heap.size, 0, none⟩) 256 256) 256 xs ∧ xs.take k = List.replicate k (f8 x) ∧ Below w.heap.size w wr) (fun i _ => 256 - (intOf i).toNat)
  case atStart => exact ⟨0, _, by omega, rfl, HO1.out, by simp, (Below.refl _ _).grown HG1.out (Nat.le_refl _) (fun k hk => by cases hk)⟩
  case round =>
    obtain ⟨k, xs, hk, rfl, hown, htk, hbel⟩ := hrel
    have HO := Lib.hid hown
    have HT := Lib.hid htk
    have HBel := Lib.hid hbel
    have hlen := hown.1
    by_cases hlt : k < 256
    · obtain ⟨u0, hc2⟩ : ∃ u0, wr.cell? ⟨w.heap.size, k, none⟩ = some u0 := ⟨_, (hown.cellAt k (by omega)).trans (List.getElem?_eq_getElem (by omega))⟩
      have hf2 := hown.frozenAt k
      have j2 : (0 : Int) ≤ (k : Int) ∧ (k : Int) < 256 := by omega
      clear hown htk hbel
      go_wp2
      go_roundw
      case rel =>
        have hs := HO.out.stored k (f8 x)
        refine ⟨k + 1, _, by omega, by push_cast; rfl, hs.1, ?_, HBel.out.grown hs.2 (HBel.out.size) (fun q hq => by injection hq with hq; omega)⟩
        rw [List.take_succ_eq_append_getElem (by simp; omega)]
        simp [List.take_set_of_le, HT.out, List.replicate_succ']
      case measure => simp [intOf]; omega
    · obtain rfl : k = 256 := by omega
      clear hown htk hbel
      go_wp2
      go_ret
      refine ⟨_, rfl, ?_, HBel.out⟩
      have ht := HT.out
      rw [List.take_of_length_le (by omega)] at ht
      rw [List.map_replicate, ← ht]
      exact HO.out
end Go.Proofs.Ytnplcfgjidolbaa
end
section
namespace Go.Proofs.Ytnplcfgjidolbaa
open Go.RowKit Go.Maps

theorem fold_set (off : Nat) : ∀ (cs : List Value) (k : Nat) (arr : Array Value), off + k + cs.length ≤ arr.size →
    ((cs.zipIdx k).foldl (fun a p => a.setIfInBounds (off + p.2) p.1) arr).toList = arr.toList.take (off + k) ++ cs ++ arr.toList.drop (off + k + cs.length) := by
  intro cs
  induction cs with
  | nil => intro k arr _; simp
  | cons v cs ih =>
    intro k arr h
    simp only [List.length_cons] at h
    rw [List.zipIdx_cons, List.foldl_cons, ih (k + 1) _ (by simp; omega)]
    have e : (arr.setIfInBounds (off + k) v).toList = arr.toList.set (off + k) v := by simp
    rw [e, show off + (k + 1) = off + k + 1 from by omega, List.take_succ_eq_append_getElem (by simp; omega)]
    simp only [List.getElem_set_self, List.length_cons]
    rw [List.take_set_of_le (Nat.le_refl _), List.drop_set_of_lt (by omega), show off + k + 1 + cs.length = off + k + (cs.length + 1) from by omega]
    simp

theorem fill_step (place : Nat → Option (Nat × Nat)) (arr : Array Value) (i : Nat) (v : Value) (rest : List (Nat × Value)) (off size : Nat) (hp : place i = some (off, size)) (hs : v.cells.size = size) (hle : off + size ≤ arr.size) :
    Instr.fill place arr ((i, v) :: rest) = Instr.fill place (arr.toList.take off ++ v.cells.toList ++ arr.toList.drop (off + size)).toArray rest := by
  have h1 : ¬ ((decide (v.cells.size ≠ size) || decide (off + v.cells.size > arr.size)) = true) := by simp; omega
  conv => lhs; unfold Instr.fill
  simp only [hp]
  rw [if_neg h1]
  congr 1
  apply Array.ext'
  have h := fold_set off v.cells.toList 0 arr (by simp; omega)
  simp only [Nat.add_zero, Array.length_toList, hs] at h
  rw [List.toList_toArray, ← h, ← Array.foldl_toList, Array.toList_zipIdx]

theorem fill_whole (place : Nat → Option (Nat × Nat)) (arr : Array Value) (cs : List Value) (hp : place 0 = some (0, cs.length)) (hle : arr.size = cs.length) : Instr.fill place arr [(0, .agg cs.toArray)] = some cs.toArray := by
  rw [fill_step place arr 0 _ [] 0 cs.length hp (by simp [Value.cells]) (by omega)]
  unfold Instr.fill
  simp [Value.cells, List.drop_eq_nil_of_le, hle]

theorem fill_write (place : Nat → Option (Nat × Nat)) (arr : Array Value) (a : Int) (cs : List Value) (h0 : place 0 = some (0, 1)) (h1 : place 1 = some (1, 256)) (hl : cs.length = 256) (hle : arr.size = 257) :
    Instr.fill place arr [(0, .int .i64 a), (1, .agg cs.toArray)] = some (.int .i64 a :: cs).toArray := by
  rw [fill_step place arr 0 _ _ 0 1 h0 rfl (by omega), fill_step place _ 1 _ [] 1 256 h1 (by simpa [Value.cells] using hl) (by simp [Value.cells]; omega)]
  unfold Instr.fill
  simp only [Value.cells, Option.some.injEq]
  congr 1
  have hz : arr.toList.length = 257 := by simpa using hle
  simp [List.drop_eq_nil_of_le, hz]

theorem und170 : (match Try.prog.underlying 170 with | some (.struct fs) => fs.toList.mapM (fun f => (Try.prog.info? f.type).map fun i => (f.offset, i.size)) | _ => none) = some [(0, 1), (1, 256)] := by kernel_rfl
theorem info170 : (Try.prog.info? 170).map (fun i => (i.zero.map fun z => z.cells.size, i.size, i.bytes)) = some (some 257, 257, 264) := by kernel_rfl
theorem und162 : Try.prog.underlying 162 = some (.slice 170) := by kernel_rfl

theorem built170 (a : Int) (cs : List Value) (hl : cs.length = 256) : Try.prog.built 170 [(0, .int .i64 a), (1, .agg cs.toArray)] = some (.int .i64 a :: cs).toArray := by
  have h1 := und170
  obtain ⟨i, hi, hz⟩ := Option.map_eq_some_iff.1 info170
  simp only [Prod.mk.injEq] at hz
  obtain ⟨z, hz0, hz1⟩ := Option.map_eq_some_iff.1 hz.1
  unfold Program.built
  rw [hi]
  cases hu : Try.prog.underlying 170 with
  | none => rw [hu] at h1; cases h1
  | some t =>
    cases t with
    | struct fs =>
      rw [hu] at h1
      simp only at h1
      simp only [hz0, h1]
      exact fill_write _ _ a cs rfl rfl hl hz1
    | _ => rw [hu] at h1; cases h1
theorem run_build170 (w : World) (a : Int) (cs : List Value) (hl : cs.length = 256) : (Instr.build 170 #[(0, .int .i64 a), (1, .agg cs.toArray)]).run Try.prog w = .ok (.agg (.int .i64 a :: cs).toArray) w :=
  run_build w 170 _ _ (built170 a cs hl)
theorem run_bs162 (w : World) (cs : List Value) (hl : cs.length = 257) : (Instr.buildSlice 162 1 #[(0, .agg cs.toArray)]).run Try.prog w = .ok (.slice (some ⟨w.heap.size, 0, none⟩) 1 1) (w.alloc (.cells cs.toArray 170)) := by
  obtain ⟨i, hi, hz⟩ := Option.map_eq_some_iff.1 info170
  simp only [Prod.mk.injEq] at hz
  obtain ⟨z, hz0, hz1⟩ := Option.map_eq_some_iff.1 hz.1
  refine run_buildSlice w 162 170 1 _ cs.toArray i z und162 hi hz0 (by rw [hz.2.1]; omega) (by rw [hz.2.1]; omega) ?_
  exact fill_whole _ _ cs (by simp [hz.2.1, hl]) (by simp [hz.2.1, hl])
end Go.Proofs.Ytnplcfgjidolbaa
end
section
namespace Go.Proofs.Ytnplcfgjidolbaa
open Go.RowKit

/-- A reader at block B of the bytes l, so far on. -/
structure Rd (w : World) (B : Nat) (v : Value) (at_ : Nat) (l : List UInt8) (lo hi : Nat) : Prop where
  cells : w.heap[B]? = some (.cells #[v, .int .i64 (at_ : Int)] 125 (0, 0))
  data : Sl lo hi f8 w v l
  apart : B < lo ∨ hi ≤ B
  le : at_ ≤ 8 * l.length

theorem own_slice {w : World} {base : Nat} {e : TypeId} {size : Nat} {v : Value} {n : Nat} {xs : List Value} (h : w.ownsRow base e size v n xs) : ∃ ao cap, v = .slice ao n cap := by
  obtain ⟨_, ⟨rfl, rfl⟩ | ⟨g, cap, cur, rfl, _⟩⟩ := h
  · exact ⟨_, _, rfl⟩
  · exact ⟨_, _, rfl⟩

theorem read_any (lo hi : Nat) (w : World) (v : Value) (l : List UInt8) (hv : Sl lo hi f8 w v l) (hhi : hi ≤ w.heap.size) :
    Calls Try.prog 11 #[v] w fun e w' => ∃ B v' hi', e = .returned (.pointer (some ⟨B, 0, none⟩)) ∧ w.heap.size ≤ B ∧ Rd w' B v' 0 l w.heap.size hi' ∧ Below w.heap.size w w' ∧ hi' ≤ w'.heap.size ∧ B < w'.heap.size := by
  have hl := hv.len
  go_enter Try.func11, Try.ntmps11
  go_wp2_with (go_at_call 50; refine (clone_any lo hi _ v l hv hhi).mono ?_; rintro e w1 ⟨v', rfl, hown, hb⟩; obtain ⟨ao', cap', rfl⟩ := own_slice hown)
  go_ret
  refine ⟨w1.heap.size, _, w1.heap.size, rfl, hb.size, ⟨heap_alloc_new _ _, ?_, Or.inr (Nat.le_refl _), Nat.zero_le _⟩, hb.alloc hb.size _, by simp, by simp⟩
  exact (Sl.owns hown hl).same (fun k _ hk => Below.heap_alloc _ _ _ hk)

theorem left_any (lo hi : Nat) (w : World) (B at_ : Nat) (v : Value) (l : List UInt8) (h : Rd w B v at_ l lo hi) :
    Calls Try.prog 13 #[.pointer (some ⟨B, 0, none⟩)] w fun e w' => e = .returned (.int .i64 (8 * (l.length : Int) - (at_ : Int))) ∧ ∃ n, w' = w.drewN n := by
  obtain ⟨hB, ⟨ao, cap, rfl, hs⟩, hap, hle⟩ := h
  obtain ⟨c0, c1, _⟩ := two_cells hB
  have hl := hs.len
  clear hB hs hap
  go_enter Try.func13, Try.ntmps13
  go_wp2
  go_quiet (fail)
  go_wp2
  go_ret
  exact ⟨rfl, _, rfl⟩

theorem bit_at (y : UInt8) (j : Nat) : bits .and .u8 (W8 y / 2 ^ (7 - j)) 1 = ((y.toBitVec.getLsbD (7 - j)).toNat : Int) := by
  have e : (W8 y / 2 ^ (7 - j) : Int) = ((y.toNat / 2 ^ (7 - j) : Nat) : Int) := by unfold W8; rw [Int.natCast_ediv, Int.natCast_pow]; rfl
  have h1 : y.toNat / 2 ^ (7 - j) < 2 ^ 8 := Nat.lt_of_le_of_lt (Nat.div_le_self _ _) y.toNat_lt
  rw [e]
  show IntKind.u8.wrap ((BitVec.ofInt 8 ((y.toNat / 2 ^ (7 - j) : Nat) : Int) &&& BitVec.ofInt 8 (1 : Int)).toNat : Int) = _
  have e3 : (BitVec.ofInt 8 (1 : Int)).toNat = 1 := by decide
  rw [BitVec.ofInt_natCast, BitVec.toNat_and, BitVec.toNat_ofNat, Nat.mod_eq_of_lt h1, e3, Nat.and_one_is_mod]
  have h2 : y.toBitVec.getLsbD (7 - j) = decide (y.toNat / 2 ^ (7 - j) % 2 = 1) := by
    show y.toNat.testBit (7 - j) = _
    rw [Nat.testBit_eq_decide_div_mod_eq]
  rw [h2, IntWalk.u8_in]
  · have := Nat.mod_lt (y.toNat / 2 ^ (7 - j)) (show 0 < 2 by omega)
    by_cases h : y.toNat / 2 ^ (7 - j) % 2 = 1
    · simp [h]
    · have : y.toNat / 2 ^ (7 - j) % 2 = 0 := by omega
      simp [this]
  · have := Nat.mod_lt (y.toNat / 2 ^ (7 - j)) (show 0 < 2 by omega); omega

theorem or_bit (V : Nat) (b : Bool) (h : V < 9223372036854775808) : bits .or .u64 ((V : Int) * 2) ((b.toNat : Nat) : Int) = ((2 * V + b.toNat : Nat) : Int) := by
  show IntKind.u64.wrap ((BitVec.ofInt 64 ((V : Int) * 2) ||| BitVec.ofInt 64 ((b.toNat : Nat) : Int)).toNat : Int) = _
  have hb : b.toNat < 2 ^ 1 := by cases b <;> decide
  rw [show ((V : Int) * 2) = ((2 ^ 1 * V : Nat) : Int) from by omega, BitVec.ofInt_natCast, BitVec.ofInt_natCast, BitVec.toNat_or, BitVec.toNat_ofNat, BitVec.toNat_ofNat,
    Nat.mod_eq_of_lt (by omega), Nat.mod_eq_of_lt (by omega), ← Nat.two_pow_add_eq_or_of_lt hb, IntWalk.u64_in _ (by omega)]

set_option maxRecDepth 100000 in
theorem rbits_any (lo hi : Nat) (w : World) (B at_ n : Nat) (v : Value) (l : List UInt8) (h : Rd w B v at_ l lo hi) (hn : n ≤ 64) (hle : at_ + n ≤ 8 * l.length) :
    Calls Try.prog 27 #[.pointer (some ⟨B, 0, none⟩), .int .i64 n] w fun e w' => e = .returned (.tuple #[.int .u64 ((Bt.val (((Bt.unpack l).drop at_).take n) : Nat) : Int), .int .u16 0]) ∧
      Rd w' B v (at_ + n) l lo hi ∧ Gro B none w w' := by
  have HH := Lib.hid h
  have hl := h.data.len
  have hle0 := h.le
  clear h
  go_enter Try.func27, Try.ntmps27
  go_wp2_with (go_at_call 13; refine (left_any lo hi _ B at_ v l HH.out).mono ?_; rintro e w1 ⟨rfl, m, rfl⟩)
  go_loopw [4, 19] (fun x i wr => ∃ (k V : Nat), k ≤ n ∧ i = .int .i64 k ∧ x = .int .u64 V ∧ V = Bt.val (((Bt.unpack l).drop at_).take k) ∧ Rd wr B v (at_ + k) l lo hi ∧ Gro B none w wr) (fun _ i _ => n - (intOf i).toNat)
  case atStart => exact ⟨0, 0, by omega, rfl, rfl, by simp [Bt.val], ⟨HH.out.cells, HH.out.data.same (fun _ _ _ => rfl), HH.out.apart, by omega⟩, ⟨rfl, rfl, rfl, Nat.le_refl _, fun _ _ _ _ => rfl⟩⟩
  case round =>
    obtain ⟨k, V, hk, rfl, rfl, hV, hrd, hgr⟩ := hrel
    have HV := Lib.hid hV
    have HG := Lib.hid hgr
    clear hV hgr
    by_cases hlt : k < n
    · obtain ⟨hB, ⟨ao, cap, rfl, hs⟩, hap, hle3⟩ := hrd
      obtain ⟨c0, c1, cz⟩ := two_cells hB
      obtain ⟨b, off, rfl, hlo, hbh, hcell⟩ := hs.cells (by intro e; subst e; simp at hle; omega)
      have hi8 : (at_ + k) / 8 < l.length := by omega
      have hc : wr.cell? ⟨b, off + (at_ + k) / 8, none⟩ = some (.int .u8 (W8 l[(at_ + k) / 8])) := hcell _ hi8
      have hy := bit_at l[(at_ + k) / 8] ((at_ + k) % 8)
      have hVb : V < 9223372036854775808 := by
        have h1 := Bt.val_lt (((Bt.unpack l).drop at_).take k)
        have h2 : (((Bt.unpack l).drop at_).take k).length ≤ k := List.length_take_le _ _
        have h3 : 2 ^ (((Bt.unpack l).drop at_).take k).length ≤ 2 ^ 63 := Nat.pow_le_pow_right (by omega) (by omega)
        rw [HV.out]; omega
      have ho := or_bit V (l[(at_ + k) / 8].toBitVec.getLsbD (7 - (at_ + k) % 8)) hVb
      have H8 := W8_lt l[(at_ + k) / 8]
      have HB := Lib.hid hB
      have HS := Lib.hid hs
      have i1 : (0 : Int) ≤ ((at_ + k : Nat) : Int) / 8 ∧ ((at_ + k : Nat) : Int) / 8 < (l.length : Int) := by omega
      clear hcell hB hs
      have hbit : (((Bt.unpack l).drop at_).take (k + 1)) = (((Bt.unpack l).drop at_).take k) ++ [l[(at_ + k) / 8].toBitVec.getLsbD (7 - (at_ + k) % 8)] := by
        have hlt3 : k < ((Bt.unpack l).drop at_).length := by rw [List.length_drop, Bt.unpack_len]; omega
        rw [List.take_succ_eq_append_getElem hlt3]
        congr 2
        have h1 := Bt.unpack_get l (at_ + k) (by omega)
        have h2 : ((Bt.unpack l).drop at_)[k]? = some (Bt.mbit l (at_ + k)) := by rw [List.getElem?_drop]; exact h1
        rw [List.getElem?_eq_getElem hlt3] at h2
        injection h2 with h2
        rw [h2]
        unfold Bt.mbit
        simp [List.getD, hi8]
      have HBIT := Lib.hid hbit
      have hbt : (l[(at_ + k) / 8].toBitVec.getLsbD (7 - (at_ + k) % 8)).toNat < 2 := by cases l[(at_ + k) / 8].toBitVec.getLsbD (7 - (at_ + k) % 8) <;> decide
      clear hbit
      generalize l[(at_ + k) / 8] = y at *
      generalize y.toBitVec.getLsbD (7 - (at_ + k) % 8) = bb at *
      go_wp2
      go_quiet (fail)
      go_wp2
      go_roundw
      case rel =>
        refine ⟨k + 1, 2 * V + bb.toNat, by omega, by go_num, ?_, ?_, ⟨?_, ?_, hap, by omega⟩, ?_⟩
        · go_num
        · rw [HBIT.out, Bt.val_snoc, ← HV.out]
        · rw [heap_setCell_same _ _ _ _ _ _ (by exact HB.out)]
          rw [show ((at_ : Int) + (k : Int) + 1) = ((at_ + (k + 1) : Nat) : Int) from by omega]; rfl
        · exact ⟨_, _, rfl, HS.out.same (fun j h1 h2 => heap_setCell_other _ _ _ _ (by intro e; simp at e; omega))⟩
        · have hg := HG.out
          refine ⟨hg.os, hg.tape, hg.output, by simpa using hg.size, fun j h1 h2 h3 => ?_⟩
          rw [heap_setCell_other _ _ _ _ h2]; exact hg.block j h1 h2 h3
      case measure => simp [intOf]; omega
    · have e : k = n := by omega
      subst e
      obtain rfl := HV.out
      have HR := Lib.hid hrd
      clear hrd HV
      go_wp2
      go_ret2
      exact ⟨rfl, HR.out, HG.out⟩

theorem rbits_short (lo hi : Nat) (w : World) (B at_ n : Nat) (v : Value) (l : List UInt8) (h : Rd w B v at_ l lo hi) (hn : n ≤ 64) (hle : 8 * l.length < at_ + n) :
    Calls Try.prog 27 #[.pointer (some ⟨B, 0, none⟩), .int .i64 n] w fun e w' => e = .returned (.tuple #[.int .u64 0, .int .u16 20]) ∧ ∃ m, w' = w.drewN m := by
  have hl := h.data.len
  have HH := Lib.hid h
  have hle0 := h.le
  clear h
  go_enter Try.func27, Try.ntmps27
  go_wp2_with (go_at_call 13; refine (left_any lo hi _ B at_ v l HH.out).mono ?_; rintro e w1 ⟨rfl, m, rfl⟩)
  go_ret2
  exact ⟨rfl, m, rfl⟩

theorem rbits_bad (w : World) (B : Nat) (n : Int) (hn : n < 0 ∨ 64 < n) :
    Calls Try.prog 27 #[.pointer (some ⟨B, 0, none⟩), .int .i64 n] w fun e w' => e = .returned (.tuple #[.int .u64 0, .int .u16 1]) ∧ w = w' := by
  rcases hn with hn | hn
  all_goals
    go_enter Try.func27, Try.ntmps27
    go_wp2
    go_ret2
    exact ⟨rfl, rfl⟩
end Go.Proofs.Ytnplcfgjidolbaa
end
section
namespace Go.Proofs.Ytnplcfgjidolbaa
open Go.RowKit Go.Maps

theorem block_ne {w : World} {b c : Nat} {cs cs' : Array Value} {t t' : TypeId} {f f' : Nat × Nat} (h : w.heap[b]? = some (.cells cs t f)) (k : w.heap[c]? = some (.cells cs' t' f')) (hne : t ≠ t') : b ≠ c := by
  intro e
  subst e
  rw [h] at k
  injection k with k
  injection k with _ k
  exact hne k
theorem own_block {w : World} {base : Nat} {e : TypeId} {s : Nat} {v : Value} {n : Nat} {xs : List Value} (h : w.ownsRow base e s v n xs) : ∀ k, v.ownBlock = some k → ∃ cs, w.heap[k]? = some (.cells cs e (0, 0)) := by
  intro k hk
  obtain ⟨_, ⟨rfl, _⟩ | ⟨g, c, cur, rfl, _, hh, _⟩⟩ := h
  · cases hk
  · have e2 : g = k := by injection hk
    exact ⟨cur, by rw [← e2]; exact hh⟩
theorem own_not {w : World} {base : Nat} {e : TypeId} {s : Nat} {v : Value} {n : Nat} {xs : List Value} (h : w.ownsRow base e s v n xs) {B : Nat} {cs : Array Value} {t : TypeId} {fr : Nat × Nat} (hB : w.heap[B]? = some (.cells cs t fr)) (hne : e ≠ t) : some B ≠ v.ownBlock := by
  intro e1
  obtain ⟨cs', h1⟩ := own_block h B e1.symm
  exact block_ne h1 hB hne rfl
theorem own_grown {w w' : World} {r : Option Nat} (g : w.grownBy w' r) {base : Nat} {e : TypeId} {s : Nat} {v : Value} {n : Nat} {xs : List Value} (h : w.ownsRow base e s v n xs) (hr : ∀ k, r = some k → ∃ cs t f, w.heap[k]? = some (.cells cs t f) ∧ t ≠ e) : w'.ownsRow base e s v n xs :=
  own_of_same h (fun k hk => g.block k (h.lt k hk).2 (fun e1 => by
    obtain ⟨cs, h1⟩ := own_block h k hk
    obtain ⟨cs', t, f, h2, h3⟩ := hr k e1.symm
    exact block_ne h2 h1 h3 rfl))
theorem map_kept {w w' : World} {bm n : Nat} {D : DataW Unit} (h : w.ownsMap Try.prog 3 (plainElem Try.prog 3) bm n D) (hb : w'.heap[bm]? = w.heap[bm]?) : w'.ownsMap Try.prog 3 (plainElem Try.prog 3) bm n D := by
  obtain ⟨es, cl, e1, e2⟩ := h
  exact ⟨es, cl, hb.trans e1, e2⟩
theorem map_not {w : World} {bm n : Nat} {D : DataW Unit} (h : w.ownsMap Try.prog 3 (plainElem Try.prog 3) bm n D) {B : Nat} {cs : Array Value} {t : TypeId} {fr : Nat × Nat} (hB : w.heap[B]? = some (.cells cs t fr)) : bm ≠ B := by
  intro e
  subst e
  obtain ⟨es, cl, e1, _⟩ := h
  rw [hB] at e1
  cases e1

/-- While a write is built: the captured variables, the disk, the bytes, the cache's row. -/
structure Wst (w W : World) (base b0 B lb bm pa pd pb sb cap : Nat) (cv : Value) (a : Nat) (s : List UInt8) (d : Dsk) (cvr : Value) (n : Nat) (xs : List Value) : Prop where
  ca : W.heap[pa]? = some (.cells #[.int .i64 (a : Int)] 3 (0, 0))
  cd : W.heap[pd]? = some (.cells #[.pointer (some ⟨B, 0, none⟩)] 92 (0, 0))
  cb : W.heap[pb]? = some (.cells #[.slice (some ⟨sb, 0, none⟩) 256 cap] 22 (0, 0))
  top : W.heap[B]? = some (.cells (dkTop lb bm cv d) 164 (0, 0))
  las : W.heap[lb]? = some (.cells (d.ls.flatMap sec).toArray 168 (0, 0))
  data : W.ownsRow b0 5 1 (.slice (some ⟨sb, 0, none⟩) 256 cap) 256 (s.map f8)
  cache : W.ownsRow base 170 257 cvr n xs
  map : ∃ D : DataW Unit, W.ownsMap Try.prog 3 (plainElem Try.prog 3) bm (d.cs.length + 1) D ∧ Seen D (d.cs ++ [(a, s)])
  fr : Dfr base w W
  lo : base ≤ B ∧ base ≤ lb ∧ base ≤ bm

section
variable {w W W' : World} {base b0 B lb bm pa pd pb sb cap : Nat} {cv : Value} {a : Nat} {s : List UInt8} {d : Dsk} {cvr : Value} {n : Nat} {xs : List Value}
theorem Wst.below (h : Wst w W base b0 B lb bm pa pd pb sb cap cv a s d cvr n xs) (hb : Below W.heap.size W W') : Wst w W' base b0 B lb bm pa pd pb sb cap cv a s d cvr n xs := by
  obtain ⟨D, h1, h2⟩ := h.map
  have key : ∀ {k : Nat} {o : Obj}, W.heap[k]? = some o → W'.heap[k]? = some o := fun hk => (hb.block _ (heap_lt' hk)).trans hk
  have hsz : base ≤ W.heap.size := by have := h.lo.1; have := heap_lt' h.top; omega
  exact ⟨key h.ca, key h.cd, key h.cb, key h.top, key h.las, own_of_same h.data (fun k hk => hb.block k (h.data.lt k hk).2), own_of_same h.cache (fun k hk => hb.block k (h.cache.lt k hk).2),
    ⟨D, map_kept h1 (by obtain ⟨es, cl, e1, _⟩ := h1; exact hb.block bm (heap_lt' e1)), h2⟩, h.fr.trans (Dfr.ofBelow hb hsz), h.lo⟩
theorem Wst.cells (h : Wst w W base b0 B lb bm pa pd pb sb cap cv a s d cvr n xs) : W.cell? ⟨pa, 0, none⟩ = some (.int .i64 (a : Int)) ∧ W.cell? ⟨pd, 0, none⟩ = some (.pointer (some ⟨B, 0, none⟩)) ∧ W.cell? ⟨pb, 0, none⟩ = some (.slice (some ⟨sb, 0, none⟩) 256 cap) ∧
    W.cell? ⟨B, 1, none⟩ = some cv ∧ W.cell? ⟨B, 2, none⟩ = some (.map (some bm)) ∧ W.rangeAt sb 0 (sec s) ∧ W.frozen? ⟨B, 1, none⟩ = false := by
  refine ⟨(cell_of_row _ _ _ _ _ _ h.ca).trans rfl, (cell_of_row _ _ _ _ _ _ h.cd).trans rfl, (cell_of_row _ _ _ _ _ _ h.cb).trans rfl, (cell_of_row _ _ _ _ _ _ h.top).trans rfl, (cell_of_row _ _ _ _ _ _ h.top).trans rfl, fun j v hv => ?_, frozen_of_row _ _ _ _ _ h.top⟩
  have hl := h.data.1
  have hj : j < 256 := by
    have := (List.getElem?_eq_some_iff.1 hv).1
    rw [sec_len] at this
    simp at hl
    omega
  rw [Nat.zero_add, h.data.cellAt j (by omega)]
  exact hv
/-- The row is lengthened. -/
theorem Wst.grow (h : Wst w W base b0 B lb bm pa pd pb sb cap cv a s d cvr n xs) (g : W.grownBy W' cvr.ownBlock) {cvr' : Value} {n' : Nat} {xs' : List Value} (hown : W'.ownsRow base 170 257 cvr' n' xs') : Wst w W' base b0 B lb bm pa pd pb sb cap cv a s d cvr' n' xs' := by
  obtain ⟨D, h1, h2⟩ := h.map
  have key : ∀ {k : Nat} {cs : Array Value} {t : TypeId} {f : Nat × Nat}, W.heap[k]? = some (.cells cs t f) → 170 ≠ t → W'.heap[k]? = some (.cells cs t f) := fun hk hne => (g.block _ (heap_lt' hk) (own_not h.cache hk hne)).trans hk
  refine ⟨key h.ca (by decide), key h.cd (by decide), key h.cb (by decide), key h.top (by decide), key h.las (by decide), own_grown g h.data (fun k hk => ?_), hown, ⟨D, map_kept h1 ?_, h2⟩, h.fr.trans ⟨⟨g.os, g.tape, g.output, g.size, fun k hk => ?_⟩, fun k cs t f hk a1 a2 a3 => g.block k (heap_lt' hk) (own_not h.cache hk (fun e => a3 e.symm))⟩, h.lo⟩
  · obtain ⟨cs, hc⟩ := own_block h.cache k hk
    exact ⟨cs, 170, _, hc, by decide⟩
  · have hm : bm < W.heap.size := by obtain ⟨es, cl, e1, _⟩ := h1; exact heap_lt' e1
    refine g.block bm hm (fun e => ?_)
    obtain ⟨cs, hc⟩ := own_block h.cache bm e.symm
    exact map_not h1 hc rfl
  · refine g.block k (by have := heap_lt' h.top; have := h.lo.1; omega) (fun e => ?_)
    have := (h.cache.lt k e.symm).1
    omega
/-- The row is stored. -/
theorem Wst.done (h : Wst w W base b0 B lb bm pa pd pb sb cap cv a s d cvr (d.cs.length + 1) (d.cs.flatMap wcl ++ wcl (a, s))) (hok : d.ok) (hl : s.length = 256) (ha : a < d.ls.length) :
    Dk (W.setCell ⟨B, 1, none⟩ cvr) base B lb bm cvr { d with cs := d.cs ++ [(a, s)] } ∧ Dfr base w (W.setCell ⟨B, 1, none⟩ cvr) := by
  obtain ⟨D, h1, h2⟩ := h.map
  refine ⟨⟨?_, ?_, ?_, ⟨D, ?_, h2⟩, ⟨hok.1, fun c hc => ?_⟩, h.lo⟩, h.fr.trans (Dfr.one h.top (.inl rfl) h.lo.1 rfl rfl rfl (by simp) (fun k hk => heap_setCell_other _ _ _ _ hk))⟩
  · rw [heap_setCell_same _ _ _ _ _ _ h.top]; rfl
  · rw [heap_setCell_other _ _ _ _ (block_ne h.las h.top (by decide))]; exact h.las
  · have e : (d.cs ++ [(a, s)]).flatMap wcl = d.cs.flatMap wcl ++ wcl (a, s) := by simp
    simp only [List.length_append, List.length_singleton, e]
    exact own_of_same h.cache (fun k hk => heap_setCell_other _ _ _ _ (fun e1 => own_not h.cache h.top (by decide) (by rw [hk, e1])))
  · simp only [List.length_append, List.length_singleton]
    exact map_kept h1 (heap_setCell_other _ _ _ _ (map_not h1 h.top))
  · rcases List.mem_append.1 hc with hc | hc
    · exact hok.2 c hc
    · simp at hc
      subst hc
      exact ⟨hl, ha⟩
end
/-- The map is written: the write's state begins. -/
theorem wst_start {w w2 : World} {base b0 B lb bm pa pd pb sb cap : Nat} {cv : Value} {a : Nat} {s : List UInt8} {d : Dsk} (h : Dk w base B lb bm cv d) (hd : w.ownsRow b0 5 1 (.slice (some ⟨sb, 0, none⟩) 256 cap) 256 (s.map f8))
    (ca : w.heap[pa]? = some (.cells #[.int .i64 (a : Int)] 3 (0, 0))) (cd : w.heap[pd]? = some (.cells #[.pointer (some ⟨B, 0, none⟩)] 92 (0, 0))) (cb : w.heap[pb]? = some (.cells #[.slice (some ⟨sb, 0, none⟩) 256 cap] 22 (0, 0)))
    {D : DataW Unit} (hm : w2.ownsMap Try.prog 3 (plainElem Try.prog 3) bm (d.cs.length + 1) D) (hs : Seen D (d.cs ++ [(a, s)])) (g : w.grownBy w2 (some bm)) : Wst w w2 base b0 B lb bm pa pd pb sb cap cv a s d cv d.cs.length (d.cs.flatMap wcl) := by
  obtain ⟨D0, h1, _⟩ := h.seen
  have key : ∀ {k : Nat} {cs : Array Value} {t : TypeId} {f : Nat × Nat}, w.heap[k]? = some (.cells cs t f) → w2.heap[k]? = w.heap[k]? := fun hk => g.block _ (heap_lt' hk) (fun e => by injection e with e; exact map_not h1 hk e.symm)
  have own : ∀ {b : Nat} {e : TypeId} {q : Nat} {v : Value} {n : Nat} {xs : List Value}, w.ownsRow b e q v n xs → w2.ownsRow b e q v n xs := fun hv => own_of_same hv (fun k hk => by obtain ⟨cs, hc⟩ := own_block hv k hk; exact key hc)
  exact ⟨(key ca).trans ca, (key cd).trans cd, (key cb).trans cb, (key h.top).trans h.top, (key h.las).trans h.las, own hd, own h.cache, ⟨D, hm, hs⟩,
    ⟨⟨g.os, g.tape, g.output, g.size, fun k hk => g.block k (by have := heap_lt' h.top; have := h.lo.1; omega) (fun e => by injection e with e; have := h.lo.2.2; omega)⟩, fun k cs t f hk _ _ _ => key hk⟩, h.lo⟩
end Go.Proofs.Ytnplcfgjidolbaa
end
