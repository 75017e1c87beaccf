/- Values of many cells: how a write of the cache is built. -/
import Derived.Test.YtnplcfgjidolbaaDiskState
import Derived.Great.BuildSlice
namespace Go.Proofs.Ytnplcfgjidolbaa
open Go.RowKit Go.Maps

theorem fold_set (off : Nat) : ∀ (cs : List Value) (k : Nat) (arr : Array Value), off + k + cs.length ≤ arr.size →
    ((cs.zipIdx k).foldl (fun a p => a.setIfInBounds (off + p.2) p.1) arr).toList = arr.toList.take (off + k) ++ cs ++ arr.toList.drop (off + k + cs.length) := by
  intro cs
  induction cs with
  | nil => intro k arr _; simp
  | cons v cs ih =>
    intro k arr h
    simp only [List.length_cons] at h
    rw [List.zipIdx_cons, List.foldl_cons, ih (k + 1) _ (by simp; omega)]
    have e : (arr.setIfInBounds (off + k) v).toList = arr.toList.set (off + k) v := by simp
    rw [e, show off + (k + 1) = off + k + 1 from by omega, List.take_succ_eq_append_getElem (by simp; omega)]
    simp only [List.getElem_set_self, List.length_cons]
    rw [List.take_set_of_le (Nat.le_refl _), List.drop_set_of_lt (by omega), show off + k + 1 + cs.length = off + k + (cs.length + 1) from by omega]
    simp

theorem fill_step (place : Nat → Option (Nat × Nat)) (arr : Array Value) (i : Nat) (v : Value) (rest : List (Nat × Value)) (off size : Nat) (hp : place i = some (off, size)) (hs : v.cells.size = size) (hle : off + size ≤ arr.size) :
    Instr.fill place arr ((i, v) :: rest) = Instr.fill place (arr.toList.take off ++ v.cells.toList ++ arr.toList.drop (off + size)).toArray rest := by
  have h1 : ¬ ((decide (v.cells.size ≠ size) || decide (off + v.cells.size > arr.size)) = true) := by simp; omega
  conv => lhs; unfold Instr.fill
  simp only [hp]
  rw [if_neg h1]
  congr 1
  apply Array.ext'
  have h := fold_set off v.cells.toList 0 arr (by simp; omega)
  simp only [Nat.add_zero, Array.length_toList, hs] at h
  rw [List.toList_toArray, ← h, ← Array.foldl_toList, Array.toList_zipIdx]

theorem fill_whole (place : Nat → Option (Nat × Nat)) (arr : Array Value) (cs : List Value) (hp : place 0 = some (0, cs.length)) (hle : arr.size = cs.length) : Instr.fill place arr [(0, .agg cs.toArray)] = some cs.toArray := by
  rw [fill_step place arr 0 _ [] 0 cs.length hp (by simp [Value.cells]) (by omega)]
  unfold Instr.fill
  simp [Value.cells, List.drop_eq_nil_of_le, hle]

theorem fill_write (place : Nat → Option (Nat × Nat)) (arr : Array Value) (a : Int) (cs : List Value) (h0 : place 0 = some (0, 1)) (h1 : place 1 = some (1, 256)) (hl : cs.length = 256) (hle : arr.size = 257) :
    Instr.fill place arr [(0, .int .i64 a), (1, .agg cs.toArray)] = some (.int .i64 a :: cs).toArray := by
  rw [fill_step place arr 0 _ _ 0 1 h0 rfl (by omega), fill_step place _ 1 _ [] 1 256 h1 (by simpa [Value.cells] using hl) (by simp [Value.cells]; omega)]
  unfold Instr.fill
  simp only [Value.cells, Option.some.injEq]
  congr 1
  have hz : arr.toList.length = 257 := by simpa using hle
  simp [List.drop_eq_nil_of_le, hz]

theorem und170 : (match Try.prog.underlying 170 with | some (.struct fs) => fs.toList.mapM (fun f => (Try.prog.info? f.type).map fun i => (f.offset, i.size)) | _ => none) = some [(0, 1), (1, 256)] := by kernel_rfl
theorem info170 : (Try.prog.info? 170).map (fun i => (i.zero.map fun z => z.cells.size, i.size, i.bytes)) = some (some 257, 257, 264) := by kernel_rfl
theorem und162 : Try.prog.underlying 162 = some (.slice 170) := by kernel_rfl

theorem built170 (a : Int) (cs : List Value) (hl : cs.length = 256) : Try.prog.built 170 [(0, .int .i64 a), (1, .agg cs.toArray)] = some (.int .i64 a :: cs).toArray := by
  have h1 := und170
  obtain ⟨i, hi, hz⟩ := Option.map_eq_some_iff.1 info170
  simp only [Prod.mk.injEq] at hz
  obtain ⟨z, hz0, hz1⟩ := Option.map_eq_some_iff.1 hz.1
  unfold Program.built
  rw [hi]
  cases hu : Try.prog.underlying 170 with
  | none => rw [hu] at h1; cases h1
  | some t =>
    cases t with
    | struct fs =>
      rw [hu] at h1
      simp only at h1
      simp only [hz0, h1]
      exact fill_write _ _ a cs rfl rfl hl hz1
    | _ => rw [hu] at h1; cases h1
theorem run_build170 (w : World) (a : Int) (cs : List Value) (hl : cs.length = 256) : (Instr.build 170 #[(0, .int .i64 a), (1, .agg cs.toArray)]).run Try.prog w = .ok (.agg (.int .i64 a :: cs).toArray) w :=
  run_build w 170 _ _ (built170 a cs hl)
theorem run_bs162 (w : World) (cs : List Value) (hl : cs.length = 257) : (Instr.buildSlice 162 1 #[(0, .agg cs.toArray)]).run Try.prog w = .ok (.slice (some ⟨w.heap.size, 0, none⟩) 1 1) (w.alloc (.cells cs.toArray 170)) := by
  obtain ⟨i, hi, hz⟩ := Option.map_eq_some_iff.1 info170
  simp only [Prod.mk.injEq] at hz
  obtain ⟨z, hz0, hz1⟩ := Option.map_eq_some_iff.1 hz.1
  refine run_buildSlice w 162 170 1 _ cs.toArray i z und162 hi hz0 (by rw [hz.2.1]; omega) (by rw [hz.2.1]; omega) ?_
  exact fill_whole _ _ cs (by simp [hz.2.1, hl]) (by simp [hz.2.1, hl])
end Go.Proofs.Ytnplcfgjidolbaa
