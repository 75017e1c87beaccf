/- The disk's Read. -/
import Derived.Test.YtnplcfgjidolbaaDiskRead
import Derived.Laws.ResultCell
namespace Go.Proofs.Ytnplcfgjidolbaa
open Go.RowKit Go.Maps

set_option maxRecDepth 100000 in
theorem read1_range (w : World) (base B lb bm : Nat) (cv : Value) (d : Dsk) (pa pd po : Nat) (a : Int) (h : Dk w base B lb bm cv d) (ha : a < 0 ∨ (d.ls.length : Int) ≤ a)
    (ca : w.heap[pa]? = some (.cells #[.int .i64 a] 3 (0, 0))) (cd : w.heap[pd]? = some (.cells #[.pointer (some ⟨B, 0, none⟩)] 92 (0, 0))) :
    Calls Try.prog 92 #[.pointer (some ⟨pa, 0, none⟩), .pointer (some ⟨pd, 0, none⟩), .pointer (some ⟨po, 0, none⟩)] w fun e w' => e = .returned (.int .u16 2) ∧ Below w.heap.size w w' := by
  obtain ⟨c0, c1, c2, c3, c4, c5, c6, c7, fz⟩ := h.cells
  have p1 : w.cell? ⟨pa, 0, none⟩ = some (.int .i64 a) := (cell_of_row _ _ _ _ _ _ ca).trans rfl
  have p2 : w.cell? ⟨pd, 0, none⟩ = some (.pointer (some ⟨B, 0, none⟩)) := (cell_of_row _ _ _ _ _ _ cd).trans rfl
  clear h ca cd
  rcases Int.lt_or_le a 0 with h0 | h0
  · have g1 : decide (a < 0) = true := decide_eq_true h0
    go_enter Try.func92, Try.ntmps92
    go_wp2
    go_region
    all_goals go_wp2
    go_ret
    exact ⟨rfl, rfl, rfl, rfl, Nat.le_refl _, fun _ _ => rfl⟩
  · have g1 : decide (a < 0) = false := decide_eq_false (by omega)
    have g2 : decide ((d.ls.length : Int) ≤ a) = true := decide_eq_true (by omega)
    go_enter Try.func92, Try.ntmps92
    go_wp2
    go_region
    all_goals go_wp2
    go_ret
    exact ⟨rfl, rfl, rfl, rfl, Nat.le_refl _, fun _ _ => rfl⟩

/-- A read. -/
def Dsk.reads (d : Dsk) (a : Int) : Dsk × Option (List UInt8) × Int :=
  if (d.begins).2 = false then ((d.begins).1, none, 4) else
  if a < 0 ∨ (d.ls.length : Int) ≤ a then ({ (d.begins).1 with rd := (d.begins).1.rd + 1 }, none, 2) else ({ (d.begins).1 with rd := (d.begins).1.rd + 1 }, some (d.get a.toNat), 0)
/-- What comes out of a read. -/
def OutV (w : World) (base : Nat) (v : Value) : Option (List UInt8) → Prop
  | none => v = .slice none 0 0
  | some s => s.length = 256 ∧ w.ownsRow base 5 1 v 256 (s.map f8)
theorem OutV.shape {w : World} {base : Nat} {v : Value} {o : Option (List UInt8)} (h : OutV w base v o) : ∃ ao n cap, v = .slice ao n cap := by
  cases o with
  | none => exact ⟨_, _, _, h⟩
  | some s => obtain ⟨ao, cap, hv⟩ := own_slice h.2; exact ⟨_, _, _, hv⟩
theorem get_len {d : Dsk} (h : d.ok) (a : Nat) (ha : a < d.ls.length) : (d.get a).length = 256 := by
  unfold Dsk.get
  split
  · next j hj =>
    obtain ⟨c, h1, _⟩ := lastOf_some d.cs a j hj
    have hl := (List.getElem?_eq_some_iff.1 h1).1
    have e : d.cs.getD j (0, []) = c := by simp [List.getD, h1]
    rw [e]
    exact (h.2 c (List.mem_of_getElem? h1)).1
  · simp [List.getD, ha]
    exact h.1 _ (List.getElem_mem ha)
theorem begins_get (d : Dsk) (a : Nat) (n : Int) : ({ (d.begins).1 with rd := n } : Dsk).get a = d.get a := by
  obtain ⟨h1, h2⟩ := begins_len d
  unfold Dsk.get
  simp only [h1, h2]

/-- The disk's own blocks are as they were. -/
theorem Dk.other {w w' : World} {base B lb bm : Nat} {cv : Value} {d : Dsk} (h : Dk w base B lb bm cv d) (hB : w'.heap[B]? = w.heap[B]?) (hl : w'.heap[lb]? = w.heap[lb]?) (hm : w'.heap[bm]? = w.heap[bm]?) (hc : ∀ k, cv.ownBlock = some k → w'.heap[k]? = w.heap[k]?) : Dk w' base B lb bm cv d := by
  obtain ⟨D, h1, h2⟩ := h.seen
  exact ⟨hB.trans h.top, hl.trans h.las, own_of_same h.cache hc, ⟨D, map_kept h1 hm, h2⟩, h.ok, h.lo⟩
theorem Dk.lts {w : World} {base B lb bm : Nat} {cv : Value} {d : Dsk} (h : Dk w base B lb bm cv d) : B < w.heap.size ∧ lb < w.heap.size ∧ bm < w.heap.size ∧ ∀ k, cv.ownBlock = some k → k < w.heap.size := by
  obtain ⟨D, ⟨es, cl, h1, _⟩, h2⟩ := h.seen
  exact ⟨heap_lt' h.top, heap_lt' h.las, heap_lt' h1, fun k hk => (h.cache.lt k hk).2⟩
set_option maxRecDepth 100000 in
theorem read_results {W : World} {b : Nat} {va : Option Addr} {vn vc : Nat} {k : Int} (tmps : Array Value) (h4 : tmps.getD 4 undef = .pointer (some ⟨b, 0, none⟩)) (h5 : tmps.getD 5 undef = .int .u16 k) (q : W.cell? ⟨b, 0, none⟩ = some (.slice va vn vc)) :
    (results Try.f39 tmps).run Try.prog W = .ok (.tuple #[.slice va vn vc, .int .u16 k]) W := by
  have h4' : tmps[4]?.getD undef = .pointer (some ⟨b, 0, none⟩) := by simpa using h4
  have h5' : tmps[5]?.getD undef = .int .u16 k := by simpa using h5
  simp [results, Try.results39, go_sem, h4', h5', q]
theorem OutV.same {w w' : World} {base : Nat} {v : Value} {o : Option (List UInt8)} (h : OutV w base v o) (hs : ∀ k, v.ownBlock = some k → w'.heap[k]? = w.heap[k]?) : OutV w' base v o := by
  cases o with
  | none => exact h
  | some s => exact ⟨h.1, own_of_same h.2 hs⟩

set_option maxRecDepth 100000 in
theorem dread_any (w : World) (base B lb bm : Nat) (cv : Value) (d : Dsk) (a : Int) (h : Dk w base B lb bm cv d) (hd : Small d) :
    Calls Try.prog 39 #[.pointer (some ⟨B, 0, none⟩), .int .i64 a] w fun e w' => ∃ v, e = .returned (.tuple #[v, .int .u16 (d.reads a).2.2]) ∧ Dk w' base B lb bm cv (d.reads a).1 ∧ Dfr base w w' ∧ OutV w' w.heap.size v (d.reads a).2.1 := by
  have hsz : base ≤ w.heap.size := by have := h.lo.1; have := heap_lt' h.top; omega
  have hb3 : Below w.heap.size w ((((w.alloc (.cells #[.pointer (some ⟨B, 0, none⟩)] 92)).alloc (.cells #[.int .i64 a] 3)).alloc (.cells #[.slice none 0 0] 22)).drew) :=
    ((((Below.refl _ _).alloc (Nat.le_refl _) _).alloc (by simp) _).alloc (by simp; omega) _).trans ⟨rfl, rfl, rfl, Nat.le_refl _, fun _ _ => rfl⟩
  have k0 : ((((w.alloc (.cells #[.pointer (some ⟨B, 0, none⟩)] 92)).alloc (.cells #[.int .i64 a] 3)).alloc (.cells #[.slice none 0 0] 22)).drew).heap[w.heap.size]? = some (.cells #[.pointer (some ⟨B, 0, none⟩)] 92 (0, 0)) := by
    rw [heap_drew, Below.heap_alloc _ _ _ (by simp; omega), Below.heap_alloc _ _ _ (by simp), heap_alloc_new]
  have k1 : ((((w.alloc (.cells #[.pointer (some ⟨B, 0, none⟩)] 92)).alloc (.cells #[.int .i64 a] 3)).alloc (.cells #[.slice none 0 0] 22)).drew).heap[w.heap.size + 1]? = some (.cells #[.int .i64 a] 3 (0, 0)) := by
    have e : w.heap.size + 1 = (w.alloc (.cells #[.pointer (some ⟨B, 0, none⟩)] 92)).heap.size := by simp
    rw [heap_drew, Below.heap_alloc _ _ _ (by simp), e, heap_alloc_new]
  have k2 : ((((w.alloc (.cells #[.pointer (some ⟨B, 0, none⟩)] 92)).alloc (.cells #[.int .i64 a] 3)).alloc (.cells #[.slice none 0 0] 22)).drew).heap[w.heap.size + 1 + 1]? = some (.cells #[.slice none 0 0] 22 (0, 0)) := by
    have e : w.heap.size + 1 + 1 = ((w.alloc (.cells #[.pointer (some ⟨B, 0, none⟩)] 92)).alloc (.cells #[.int .i64 a] 3)).heap.size := by simp
    rw [heap_drew, e, heap_alloc_new]
  obtain ⟨hBl, hll, hml, hcl⟩ := h.lts
  have hok := h.ok
  have hk := h.below hb3
  have hbeg := begins_len d
  have hdf : Dfr base w ((((w.alloc (.cells #[.pointer (some ⟨B, 0, none⟩)] 92)).alloc (.cells #[.int .i64 a] 3)).alloc (.cells #[.slice none 0 0] 22)).drew) := Dfr.ofBelow hb3 hsz
  generalize hw3 : ((((w.alloc (.cells #[.pointer (some ⟨B, 0, none⟩)] 92)).alloc (.cells #[.int .i64 a] 3)).alloc (.cells #[.slice none 0 0] 22)).drew) = w3 at *
  have hc : Calls Try.prog 88 #[.pointer (some ⟨B, 0, none⟩), .pointer (some ⟨B, 5, none⟩), .func (.func 92) #[] #[.pointer (some ⟨w.heap.size + 1, 0, none⟩), .pointer (some ⟨w.heap.size, 0, none⟩), .pointer (some ⟨w.heap.size + 1 + 1, 0, none⟩)]] w3
      fun e w' => ∃ k, e = .returned (.int .u16 k) ∧ (k = (d.reads a).2.2 ∧ ∃ v, w'.heap[w.heap.size + 1 + 1]? = some (.cells #[v] 22 (0, 0)) ∧ w'.heap[w.heap.size]? = some (.cells #[.pointer (some ⟨B, 0, none⟩)] 92 (0, 0)) ∧ Dk w' base B lb bm cv (d.reads a).1 ∧ Dfr base w w' ∧ OutV w' w.heap.size v (d.reads a).2.1) := by
    refine op_92 w3 base B lb bm cv d _ _ _ (fun k w' => k = (d.reads a).2.2 ∧ ∃ v, w'.heap[w.heap.size + 1 + 1]? = some (.cells #[v] 22 (0, 0)) ∧ w'.heap[w.heap.size]? = some (.cells #[.pointer (some ⟨B, 0, none⟩)] 92 (0, 0)) ∧ Dk w' base B lb bm cv (d.reads a).1 ∧ Dfr base w w' ∧ OutV w' w.heap.size v (d.reads a).2.1) hk hd.rd hd.trip (fun hb w' hd' hf => ?_) (fun hb w' hd' hf hs' => ?_)
    · unfold Dsk.reads
      rw [if_pos hb]
      exact ⟨rfl, _, (hf.keep _ _ _ _ k2 (by decide) (by decide) (by decide)).trans k2, (hf.keep _ _ _ _ k0 (by decide) (by decide) (by decide)).trans k0, hd', hdf.trans hf, rfl⟩
    · have k0' := (hs' _ (show w.heap.size ≠ B by omega)).trans k0
      have k1' := (hs' _ (show w.heap.size + 1 ≠ B by omega)).trans k1
      have k2' := (hs' _ (show w.heap.size + 1 + 1 ≠ B by omega)).trans k2
      have hsz' : base ≤ w'.heap.size := by have := hd'.lo.1; have := heap_lt' hd'.top; omega
      unfold Dsk.reads
      rw [if_neg (by rw [hb]; simp)]
      by_cases ha : a < 0 ∨ (d.ls.length : Int) ≤ a
      · rw [if_pos ha]
        refine (read1_range w' base B lb bm cv _ _ _ _ a hd' (by rw [hbeg.1]; exact ha) k1' k0').mono fun e w'' ⟨h1, h2⟩ => ⟨_, h1, rfl, _, (h2.block _ (heap_lt' k2')).trans k2', (h2.block _ (heap_lt' k0')).trans k0', hd'.below h2, (hdf.trans hf).trans (Dfr.ofBelow h2 hsz'), rfl⟩
      · rw [if_neg ha]
        obtain ⟨m, rfl⟩ := Int.eq_ofNat_of_zero_le (show 0 ≤ a by omega)
        refine (read1_ok w' base B lb bm cv _ _ _ _ m _ hd' (by rw [hbeg.1]; omega) (by rw [hbeg.1]; exact hd.ls) (by rw [hbeg.2]; exact hd.cs) k1' k0' k2').mono ?_
        rintro e w'' ⟨h1, h2, v', h3, h4⟩
        rw [begins_get] at h4
        have hne : w.heap.size + 1 + 1 ≠ B := by omega
        have hg2 : Below w.heap.size w' w'' := h2.below (by have := hdf.below.size; have := hf.below.size; omega) (by omega) (by simp)
        have hww : w.heap.size ≤ w'.heap.size := (hdf.trans hf).below.size
        have hkeep : ∀ k, k < w'.heap.size → k ≠ w.heap.size + 1 + 1 → w''.heap[k]? = w'.heap[k]? := fun k hk hne => h2.block k hk hne (by simp)
        refine ⟨_, h1, rfl, v', h3, (hkeep _ (heap_lt' k0') (by omega)).trans k0', hd'.other (hkeep _ (by omega) (by omega)) (hkeep _ (by omega) (by omega)) (hkeep _ (by omega) (by omega)) (fun k hk => hkeep k (by have := hcl k hk; omega) (by have := hcl k hk; omega)), ⟨(hdf.trans hf).below.trans (hg2.mono hsz), fun k cs t fr hk a1 a2 a3 => (hkeep k (by have := heap_lt' hk; omega) (by have := heap_lt' hk; omega)).trans ((hdf.trans hf).keep k cs t fr hk a1 a2 a3)⟩, get_len hok m (by omega), own_low h4 (by have := hdf.below.size; have := hf.below.size; omega)⟩
  have HC := Lib.hid hc
  have s0 : w3.cell? ⟨w.heap.size, 0, none⟩ = some (.pointer (some ⟨B, 0, none⟩)) := (cell_of_row _ _ _ _ _ _ k0).trans rfl
  clear hc hk hdf hb3 h k0 k1 k2
  subst hw3
  go_enter Try.func39, Try.ntmps39
  go_wp2
  go_region_held3 (fun w' => w'.cell? ⟨w.heap.size, 0, none⟩ = some (.pointer (some ⟨B, 0, none⟩))) (first | assumption) (first
    | (go_at_call 88; refine Calls.mono HC.out ?_; rintro e w4 ⟨k, rfl, hk, v, hv4, hk4, hd4, hf4, ho4⟩; have HF := Lib.hid (And.intro hk (And.intro hd4 (And.intro hf4 ho4))); obtain ⟨va, vn, vc, rfl⟩ := ho4.shape; have HV4 := Lib.hid hv4; have z1 : w4.cell? ⟨w.heap.size, 0, none⟩ = some (.pointer (some ⟨B, 0, none⟩)) := (cell_of_row _ _ _ _ _ _ hk4).trans rfl; have z2 : w4.cell? ⟨w.heap.size + 1 + 1, 0, none⟩ = some (.slice va vn vc) := (cell_of_row _ _ _ _ _ _ hv4).trans rfl; have z3 : w4.frozen? ⟨w.heap.size + 1 + 1, 0, none⟩ = false := frozen_of_row _ _ _ _ _ hv4; clear hk hd4 hf4 hk4 ho4 hv4))
  all_goals go_wp2
  obtain ⟨r1, r2, r3, r4⟩ := HF.out
  have hs4 := r3.below.size
  have hv4' := HV4.out
  refine bodyPost_ret (read_results _ rfl rfl ((cell_of_row _ _ _ _ _ _ (heap_setCell_same _ _ _ _ _ _ hv4')).trans rfl)) rfl ?_
  subst r1
  have hset : ∀ k, k ≠ w.heap.size + 1 + 1 → (w4.setCell ⟨w.heap.size + 1 + 1, 0, none⟩ (.slice va vn vc)).heap[k]? = w4.heap[k]? := fun k hk => heap_setCell_other _ _ _ _ hk
  refine ⟨_, rfl, r2.other (hset _ (by omega)) (hset _ (by omega)) (hset _ (by omega)) (fun k hk => hset _ (by have := hcl k hk; omega)), ⟨⟨r3.below.os, r3.below.tape, r3.below.output, by simpa using r3.below.size, fun k hk => (hset _ (by omega)).trans (r3.below.block k hk)⟩, fun k cs t fr hk a1 a2 a3 => (hset _ (by have := heap_lt' hk; omega)).trans (r3.keep k cs t fr hk a1 a2 a3)⟩, r4.same (fun k hk => hset _ (fun e => ?_))⟩
  cases ho : (d.reads a).2.1 with
  | none => rw [ho] at r4; rw [r4] at hk; cases hk
  | some s => rw [ho] at r4; exact own_not r4.2 hv4' (by decide) (by rw [hk, e])
end Go.Proofs.Ytnplcfgjidolbaa
