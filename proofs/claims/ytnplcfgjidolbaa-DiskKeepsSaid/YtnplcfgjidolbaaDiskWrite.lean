/- The disk's Write. -/
import Derived.Test.YtnplcfgjidolbaaDiskOp
namespace Go.Proofs.Ytnplcfgjidolbaa
open Go.RowKit Go.Maps

theorem drew_b (w : World) : Below w.heap.size w w.drew := ⟨rfl, rfl, rfl, Nat.le_refl _, fun _ _ => rfl⟩
theorem begins_len (d : Dsk) : (d.begins).1.ls = d.ls ∧ (d.begins).1.cs = d.cs := by
  unfold Dsk.begins
  split
  · exact ⟨rfl, rfl⟩
  · split <;> exact ⟨rfl, rfl⟩

/-- A call's bounds. -/
structure Small (d : Dsk) : Prop where
  ls : d.ls.length ≤ 16384
  cs : d.cs.length ≤ 100000000
  trip : d.trip ≤ 9223372036854775807
  rd : 0 ≤ d.rd ∧ d.rd < 4611686018427387904
  wr : 0 ≤ d.wr ∧ d.wr < 4611686018427387904
  fl : 0 ≤ d.fl ∧ d.fl < 4611686018427387904

set_option maxRecDepth 100000 in
theorem dwrite_any (w : World) (base B lb bm : Nat) (cv : Value) (d : Dsk) (a : Int) (bv : Value) (s : List UInt8) (b0 : Nat) (h : Dk w base B lb bm cv d) (hs : w.ownsRow b0 5 1 bv s.length (s.map f8)) (hd : Small d) :
    Calls Try.prog 32 #[.pointer (some ⟨B, 0, none⟩), .int .i64 a, bv] w fun e w' => e = .returned (.int .u16 (d.put a s).2) ∧ ∃ cv', Dk w' base B lb bm cv' (d.put a s).1 ∧ Dfr base w w' := by
  have hsz : base ≤ w.heap.size := by have := h.lo.1; have := heap_lt' h.top; omega
  obtain ⟨ao, cap, rfl⟩ := own_slice hs
  generalize hn : s.length = n at *
  have hb3 : Below w.heap.size w ((((w.alloc (.cells #[.pointer (some ⟨B, 0, none⟩)] 92)).alloc (.cells #[.int .i64 a] 3)).alloc (.cells #[.slice ao n cap] 22)).drew) :=
    ((((Below.refl _ _).alloc (Nat.le_refl _) _).alloc (by simp) _).alloc (by simp; omega) _).trans ⟨rfl, rfl, rfl, Nat.le_refl _, fun _ _ => rfl⟩
  have k0 : ((((w.alloc (.cells #[.pointer (some ⟨B, 0, none⟩)] 92)).alloc (.cells #[.int .i64 a] 3)).alloc (.cells #[.slice ao n cap] 22)).drew).heap[w.heap.size]? = some (.cells #[.pointer (some ⟨B, 0, none⟩)] 92 (0, 0)) := by
    rw [heap_drew, Below.heap_alloc _ _ _ (by simp; omega), Below.heap_alloc _ _ _ (by simp), heap_alloc_new]
  have k1 : ((((w.alloc (.cells #[.pointer (some ⟨B, 0, none⟩)] 92)).alloc (.cells #[.int .i64 a] 3)).alloc (.cells #[.slice ao n cap] 22)).drew).heap[w.heap.size + 1]? = some (.cells #[.int .i64 a] 3 (0, 0)) := by
    have e : w.heap.size + 1 = (w.alloc (.cells #[.pointer (some ⟨B, 0, none⟩)] 92)).heap.size := by simp
    rw [heap_drew, Below.heap_alloc _ _ _ (by simp), e, heap_alloc_new]
  have k2 : ((((w.alloc (.cells #[.pointer (some ⟨B, 0, none⟩)] 92)).alloc (.cells #[.int .i64 a] 3)).alloc (.cells #[.slice ao n cap] 22)).drew).heap[w.heap.size + 1 + 1]? = some (.cells #[.slice ao n cap] 22 (0, 0)) := by
    have e : w.heap.size + 1 + 1 = ((w.alloc (.cells #[.pointer (some ⟨B, 0, none⟩)] 92)).alloc (.cells #[.int .i64 a] 3)).heap.size := by simp
    rw [heap_drew, e, heap_alloc_new]
  have hBl := heap_lt' h.top
  have hk := h.below hb3
  have hown := own_of_same hs (fun k hk => hb3.block k (hs.lt k hk).2)
  have hbeg := begins_len d
  have hdf : Dfr base w ((((w.alloc (.cells #[.pointer (some ⟨B, 0, none⟩)] 92)).alloc (.cells #[.int .i64 a] 3)).alloc (.cells #[.slice ao n cap] 22)).drew) := Dfr.ofBelow hb3 hsz
  generalize hw3 : ((((w.alloc (.cells #[.pointer (some ⟨B, 0, none⟩)] 92)).alloc (.cells #[.int .i64 a] 3)).alloc (.cells #[.slice ao n cap] 22)).drew) = w3 at *
  have hc : Calls Try.prog 88 #[.pointer (some ⟨B, 0, none⟩), .pointer (some ⟨B, 6, none⟩), .func (.func 89) #[] #[.pointer (some ⟨w.heap.size + 1, 0, none⟩), .pointer (some ⟨w.heap.size, 0, none⟩), .pointer (some ⟨w.heap.size + 1 + 1, 0, none⟩)]] w3
      fun e w' => ∃ k, e = .returned (.int .u16 k) ∧ (k = (d.put a s).2 ∧ (∃ cv', Dk w' base B lb bm cv' (d.put a s).1 ∧ Dfr base w w') ∧ w'.heap[w.heap.size]? = some (.cells #[.pointer (some ⟨B, 0, none⟩)] 92 (0, 0))) := by
    refine op_89 w3 base B lb bm cv d _ _ _ (fun k w' => k = (d.put a s).2 ∧ (∃ cv', Dk w' base B lb bm cv' (d.put a s).1 ∧ Dfr base w w') ∧ w'.heap[w.heap.size]? = some (.cells #[.pointer (some ⟨B, 0, none⟩)] 92 (0, 0))) hk hd.wr hd.trip (fun hb w' hd' hf => ?_) (fun hb w' hd' hf hs' => ?_)
    · rw [put_eq, if_pos hb]
      exact ⟨rfl, ⟨cv, hd', hdf.trans hf⟩, (hf.keep _ _ _ _ k0 (by decide) (by decide) (by decide)).trans k0⟩
    · rw [put_eq, if_neg (by rw [hb]; simp)]
      refine (write1_any w' base B lb bm cv _ _ _ _ a (.slice ao n cap) s b0 hd' (by rw [hn]; exact hf.own hown (by decide) (by decide) (by decide)) (by rw [hbeg.1]; exact hd.ls) (by rw [hbeg.2]; exact hd.cs) ?_ ?_ ?_).mono fun e w'' ⟨h1, cv', h2, h3⟩ => ⟨_, h1, rfl, ⟨cv', h2, (hdf.trans hf).trans h3⟩, ((hf.trans h3).keep _ _ _ _ k0 (by decide) (by decide) (by decide)).trans k0⟩
      · rw [hs' _ (by omega)]; exact k1
      · rw [hs' _ (by omega)]; exact k0
      · rw [hs' _ (by omega)]; exact k2
  have HC := Lib.hid hc
  have s0 : w3.cell? ⟨w.heap.size, 0, none⟩ = some (.pointer (some ⟨B, 0, none⟩)) := (cell_of_row _ _ _ _ _ _ k0).trans rfl
  clear hc hk hown hdf hb3 h hs k0 k1 k2
  subst hw3
  go_enter Try.func32, Try.ntmps32
  go_wp2
  go_region_held3 (fun w' => w'.cell? ⟨w.heap.size, 0, none⟩ = some (.pointer (some ⟨B, 0, none⟩))) (first | assumption) (first
    | (go_at_call 88; refine Calls.mono HC.out ?_; rintro e w4 ⟨k, rfl, hk, ⟨cv', hd4, hf4⟩, hk4⟩; have HF := Lib.hid (And.intro hk (And.intro hd4 hf4)); have z1 : w4.cell? ⟨w.heap.size, 0, none⟩ = some (.pointer (some ⟨B, 0, none⟩)) := (cell_of_row _ _ _ _ _ _ hk4).trans rfl; clear hk hd4 hf4 hk4))
  all_goals go_wp2
  go_ret
  obtain ⟨r1, r2, r3⟩ := HF.out
  subst r1
  exact ⟨rfl, _, r2, r3⟩
end Go.Proofs.Ytnplcfgjidolbaa
