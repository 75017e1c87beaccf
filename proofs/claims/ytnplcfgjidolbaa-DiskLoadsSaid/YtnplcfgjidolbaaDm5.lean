/- The disk's Write. A read of the disk: the closure's walk. The disk's Read. -/
import Derived.Test.YtnplcfgjidolbaaDm4
import Derived.Deep.RegionHeld3
import Derived.Deep.OwnRows
import Derived.Laws.ResultCell
section
namespace Go.Proofs.Ytnplcfgjidolbaa
open Go.RowKit Go.Maps

theorem drew_b (w : World) : Below w.heap.size w w.drew := ⟨rfl, rfl, rfl, Nat.le_refl _, fun _ _ => rfl⟩
theorem begins_len (d : Dsk) : (d.begins).1.ls = d.ls ∧ (d.begins).1.cs = d.cs := by
  unfold Dsk.begins
  split
  · exact ⟨rfl, rfl⟩
  · split <;> exact ⟨rfl, rfl⟩

/-- A call's bounds. -/
structure Small (d : Dsk) : Prop where
  ls : d.ls.length ≤ 16384
  cs : d.cs.length ≤ 100000000
  trip : d.trip ≤ 9223372036854775807
  rd : 0 ≤ d.rd ∧ d.rd < 4611686018427387904
  wr : 0 ≤ d.wr ∧ d.wr < 4611686018427387904
  fl : 0 ≤ d.fl ∧ d.fl < 4611686018427387904

set_option maxRecDepth 100000 in
theorem dwrite_any (w : World) (base B lb bm : Nat) (cv : Value) (d : Dsk) (a : Int) (bv : Value) (s : List UInt8) (b0 : Nat) (h : Dk w base B lb bm cv d) (hs : w.ownsRow b0 5 1 bv s.length (s.map f8)) (hd : Small d) :
    Calls Try.prog 32 #[.pointer (some ⟨B, 0, none⟩), .int .i64 a, bv] w fun e w' => e = .returned (.int .u16 (d.put a s).2) ∧ ∃ cv', Dk w' base B lb bm cv' (d.put a s).1 ∧ Dfr base w w' := by
  have hsz : base ≤ w.heap.size := by have := h.lo.1; have := heap_lt' h.top; omega
  obtain ⟨ao, cap, rfl⟩ := own_slice hs
  generalize hn : s.length = n at *
  have hb3 : Below w.heap.size w ((((w.alloc (.cells #[.pointer (some ⟨B, 0, none⟩)] 92)).alloc (.cells #[.int .i64 a] 3)).alloc (.cells #[.slice ao n cap] 22)).drew) :=
    ((((Below.refl _ _).alloc (Nat.le_refl _) _).alloc (by simp) _).alloc (by simp; omega) _).trans ⟨rfl, rfl, rfl, Nat.le_refl _, fun _ _ => rfl⟩
  have k0 : ((((w.alloc (.cells #[.pointer (some ⟨B, 0, none⟩)] 92)).alloc (.cells #[.int .i64 a] 3)).alloc (.cells #[.slice ao n cap] 22)).drew).heap[w.heap.size]? = some (.cells #[.pointer (some ⟨B, 0, none⟩)] 92 (0, 0)) := by
    rw [heap_drew, Below.heap_alloc _ _ _ (by simp; omega), Below.heap_alloc _ _ _ (by simp), heap_alloc_new]
  have k1 : ((((w.alloc (.cells #[.pointer (some ⟨B, 0, none⟩)] 92)).alloc (.cells #[.int .i64 a] 3)).alloc (.cells #[.slice ao n cap] 22)).drew).heap[w.heap.size + 1]? = some (.cells #[.int .i64 a] 3 (0, 0)) := by
    have e : w.heap.size + 1 = (w.alloc (.cells #[.pointer (some ⟨B, 0, none⟩)] 92)).heap.size := by simp
    rw [heap_drew, Below.heap_alloc _ _ _ (by simp), e, heap_alloc_new]
  have k2 : ((((w.alloc (.cells #[.pointer (some ⟨B, 0, none⟩)] 92)).alloc (.cells #[.int .i64 a] 3)).alloc (.cells #[.slice ao n cap] 22)).drew).heap[w.heap.size + 1 + 1]? = some (.cells #[.slice ao n cap] 22 (0, 0)) := by
    have e : w.heap.size + 1 + 1 = ((w.alloc (.cells #[.pointer (some ⟨B, 0, none⟩)] 92)).alloc (.cells #[.int .i64 a] 3)).heap.size := by simp
    rw [heap_drew, e, heap_alloc_new]
  have hBl := heap_lt' h.top
  have hk := h.below hb3
  have hown := own_of_same hs (fun k hk => hb3.block k (hs.lt k hk).2)
  have hbeg := begins_len d
  have hdf : Dfr base w ((((w.alloc (.cells #[.pointer (some ⟨B, 0, none⟩)] 92)).alloc (.cells #[.int .i64 a] 3)).alloc (.cells #[.slice ao n cap] 22)).drew) := Dfr.ofBelow hb3 hsz
  generalize hw3 : ((((w.alloc (.cells #[.pointer (some ⟨B, 0, none⟩)] 92)).alloc (.cells #[.int .i64 a] 3)).alloc (.cells #[.slice ao n cap] 22)).drew) = w3 at *
  have hc : Calls Try.prog 88 #[.pointer (some ⟨B, 0, none⟩), .pointer (some ⟨B, 6, none⟩), .func (.func 89) #[] #[.pointer (some ⟨w.heap.size + 1, 0, none⟩), .pointer (some ⟨w.heap.size, 0, none⟩), .pointer (some ⟨w.heap.size + 1 + 1, 0, none⟩)]] w3
      fun e w' => ∃ k, e = .returned (.int .u16 k) ∧ (k = (d.put a s).2 ∧ (∃ cv', Dk w' base B lb bm cv' (d.put a s).1 ∧ Dfr base w w') ∧ w'.heap[w.heap.size]? = some (.cells #[.pointer (some ⟨B, 0, none⟩)] 92 (0, 0))) := by
    refine op_89 w3 base B lb bm cv d _ _ _ (fun k w' => k = (d.put a s).2 ∧ (∃ cv', Dk w' base B lb bm cv' (d.put a s).1 ∧ Dfr base w w') ∧ w'.heap[w.heap.size]? = some (.cells #[.pointer (some ⟨B, 0, none⟩)] 92 (0, 0))) hk hd.wr hd.trip (fun hb w' hd' hf => ?_) (fun hb w' hd' hf hs' => ?_)
    · rw [put_eq, if_pos hb]
      exact ⟨rfl, ⟨cv, hd', hdf.trans hf⟩, (hf.keep _ _ _ _ k0 (by decide) (by decide) (by decide)).trans k0⟩
    · rw [put_eq, if_neg (by rw [hb]; simp)]
      refine (write1_any w' base B lb bm cv _ _ _ _ a (.slice ao n cap) s b0 hd' (by rw [hn]; exact hf.own hown (by decide) (by decide) (by decide)) (by rw [hbeg.1]; exact hd.ls) (by rw [hbeg.2]; exact hd.cs) ?_ ?_ ?_).mono fun e w'' ⟨h1, cv', h2, h3⟩ => ⟨_, h1, rfl, ⟨cv', h2, (hdf.trans hf).trans h3⟩, ((hf.trans h3).keep _ _ _ _ k0 (by decide) (by decide) (by decide)).trans k0⟩
      · rw [hs' _ (by omega)]; exact k1
      · rw [hs' _ (by omega)]; exact k0
      · rw [hs' _ (by omega)]; exact k2
  have HC := Lib.hid hc
  have s0 : w3.cell? ⟨w.heap.size, 0, none⟩ = some (.pointer (some ⟨B, 0, none⟩)) := (cell_of_row _ _ _ _ _ _ k0).trans rfl
  clear hc hk hown hdf hb3 h hs k0 k1 k2
  subst hw3
  go_enter Try.func32, Try.ntmps32
  go_wp2
  go_region_held3 (fun w' => w'.cell? ⟨w.heap.size, 0, none⟩ = some (.pointer (some ⟨B, 0, none⟩))) (first | assumption) (first
    | (go_at_call 88; refine Calls.mono HC.out ?_; rintro e w4 ⟨k, rfl, hk, ⟨cv', hd4, hf4⟩, hk4⟩; have HF := Lib.hid (And.intro hk (And.intro hd4 hf4)); have z1 : w4.cell? ⟨w.heap.size, 0, none⟩ = some (.pointer (some ⟨B, 0, none⟩)) := (cell_of_row _ _ _ _ _ _ hk4).trans rfl; clear hk hd4 hf4 hk4))
  all_goals go_wp2
  go_ret
  obtain ⟨r1, r2, r3⟩ := HF.out
  subst r1
  exact ⟨rfl, _, r2, r3⟩
end Go.Proofs.Ytnplcfgjidolbaa
end
section
namespace Go.Proofs.Ytnplcfgjidolbaa
open Go.RowKit Go.Maps

set_option linter.unusedSimpArgs false
/-- A sector's noughts. -/
def zeros256 : Array Value := Array.replicate 256 (.int .u8 0)
theorem wp_alloc168 {o : Oper} {a : Act} {w : World} {K : Act → World → Prop} {Q : Exit → Act → World → Prop} (ho : o.op = .alloc 168) (h : K (a.put o.dst (.pointer (some ⟨w.heap.size, 0, none⟩))) (w.alloc (.cells zeros256 168))) : o.wp Try.prog a w K Q := by
  obtain ⟨i, hi, hz⟩ := Option.map_eq_some_iff.1 zero168
  unfold Oper.wp execOp
  simp [ho, Instr.alloc, zeroValue, typeInfo, hi, hz, newVar, newRow, Value.cells, Result.andThen]
  exact h
/-- A sector, written whole. -/
theorem heap_sector {W : World} {b : Nat} {cur : Array Value} (hb : W.heap[b]? = some (.cells cur 168 (0, 0))) (hs : cur.size = 256) (s : List UInt8) (hl : s.length = 256) : (W.setCells b 0 (sec s)).heap[b]? = some (.cells (sec s).toArray 168 (0, 0)) := by
  rw [heap_setCells W b 168 (sec s) 0 cur hb (by rw [sec_len]; omega)]
  rw [sec_len, hl]
  have : cur.toList.length = 256 := by simpa using hs
  simp [List.drop_eq_nil_of_le, this]
theorem there_of {W : World} {b : Nat} {cur : Array Value} (hb : W.heap[b]? = some (.cells cur 168 (0, 0))) (hs : cur.size = 256) : W.there b 0 256 := by
  intro j hj
  rw [Nat.zero_add]
  refine ⟨?_, frozen_of_row _ _ _ _ _ hb⟩
  rw [cell_of_row _ _ _ _ _ _ hb, Array.getElem?_eq_getElem (by omega)]
  rfl
theorem slice168 (b : Nat) (W : World) : (Instr.sliceAt 168 (.pointer (some ⟨b, 0, none⟩)) none none none).run Try.prog W = .ok (.slice (some ⟨b, 0, none⟩) 256 256) W := by
  obtain ⟨i, hi, _⟩ := info_parts info5
  simp [Instr.sliceAt, run_underlying und168, Instr.sureAddr, Instr.sliceBounds, sizeOf, typeInfo, hi, Result.andThen, Addr.add]

set_option maxRecDepth 100000 in
theorem zero3 (w : World) : (zeroValue 3).run Try.prog w = .ok (.int .i64 0) w := by
  have h : (Try.prog.info? 3).map (fun i => i.zero) = some (some (.int .i64 0)) := by kernel_rfl
  obtain ⟨i, hi, hz⟩ := Option.map_eq_some_iff.1 h
  simp [zeroValue, typeInfo, hi, hz]
set_option maxRecDepth 100000 in
/-- A look-up of the disk's map. -/
theorem Dk.look {W : World} {base B lb bm : Nat} {cv : Value} {d : Dsk} (h : Dk W base B lb bm cv d) (a : Nat) (ha : a ≤ 1000000000) :
    ∃ c : Int, (Instr.lookup 161 (.map (some bm)) (.int .i64 (a : Int)) true).run Try.prog W = .ok (.tuple #[.int .i64 c, .bool (lastOf d.cs a).isSome]) W ∧ ∀ j, lastOf d.cs a = some j → c = (j : Int) := by
  obtain ⟨D, hm, hs⟩ := h.seen
  obtain ⟨v, ps, hrun, hv⟩ := hm.look_ok (int_keyed und3) und161 (zero3 W) (plainElem_int und3 (by decide)) (keyOf_int_mk und3 (WalkArith.wf_i64 (show -9223372036854775808 ≤ (a : Int) ∧ (a : Int) ≤ 9223372036854775807 by omega)))
  obtain ⟨c, rfl, hc, _⟩ := plainElem_int_inv und3 hv
  refine ⟨c, by rw [hrun, (hs.2 a).1], fun j hj => ?_⟩
  have h1 := (hs.2 a).2 j hj
  have h2 := congrArg Prod.fst hc
  rw [h1] at h2
  injection h2 with h2
  injection h2 with _ h2
  exact h2.symm

theorem own_low {w : World} {base base' : Nat} {e : TypeId} {size : Nat} {v : Value} {n : Nat} {xs : List Value} (h : w.ownsRow base e size v n xs) (hb : base' ≤ base) : w.ownsRow base' e size v n xs := by
  obtain ⟨h1, h | ⟨g, c, cur, h2, h3, h4⟩⟩ := h
  · exact ⟨h1, .inl h⟩
  · exact ⟨h1, .inr ⟨g, c, cur, h2, Nat.le_trans hb h3, h4⟩⟩

set_option maxHeartbeats 1000000 in
set_option maxRecDepth 100000 in
theorem read1_ok (w : World) (base B lb bm : Nat) (cv : Value) (d : Dsk) (pa pd po : Nat) (a : Nat) (ov : Value) (h : Dk w base B lb bm cv d) (ha : a < d.ls.length) (hn : d.ls.length ≤ 16384) (hc : d.cs.length ≤ 100000000)
    (ca : w.heap[pa]? = some (.cells #[.int .i64 (a : Int)] 3 (0, 0))) (cd : w.heap[pd]? = some (.cells #[.pointer (some ⟨B, 0, none⟩)] 92 (0, 0))) (co : w.heap[po]? = some (.cells #[ov] 22 (0, 0))) :
    Calls Try.prog 92 #[.pointer (some ⟨pa, 0, none⟩), .pointer (some ⟨pd, 0, none⟩), .pointer (some ⟨po, 0, none⟩)] w fun e w' => e = .returned (.int .u16 0) ∧ Gro po none w w' ∧ ∃ v', w'.heap[po]? = some (.cells #[v'] 22 (0, 0)) ∧ w'.ownsRow w.heap.size 5 1 v' 256 ((d.get a).map f8) := by
  obtain ⟨c0, c1, c2, c3, c4, c5, c6, c7, fz⟩ := h.cells
  have p1 : w.cell? ⟨pa, 0, none⟩ = some (.int .i64 (a : Int)) := (cell_of_row _ _ _ _ _ _ ca).trans rfl
  have p2 : w.cell? ⟨pd, 0, none⟩ = some (.pointer (some ⟨B, 0, none⟩)) := (cell_of_row _ _ _ _ _ _ cd).trans rfl
  have hl := h.ok.1 d.ls[a] (List.getElem_mem ha)
  have hsa := h.sector a ha
  generalize hs0 : d.ls[a] = s0 at hl hsa
  have b1 : Below w.heap.size w (w.drew.drew.alloc (.cells zeros256 168)) := ((Below.refl _ _).trans ⟨rfl, rfl, rfl, Nat.le_refl _, fun _ _ => rfl⟩ : Below w.heap.size w w.drew.drew).alloc (Nat.le_refl _) _
  have hW1b : (w.drew.drew.alloc (.cells zeros256 168)).heap[w.heap.size]? = some (.cells zeros256 168 (0, 0)) := heap_alloc_new w.drew.drew _
  have hz : zeros256.size = 256 := by simp [zeros256]
  have hth := there_of hW1b hz
  have hW2b := heap_sector hW1b hz s0 hl
  have b2 : Below w.heap.size w ((w.drew.drew.alloc (.cells zeros256 168)).setCells w.heap.size 0 (sec s0)) := by
    obtain ⟨q1, q2, q3, q4⟩ := setCells_rest w.heap.size (sec s0) 0 (w.drew.drew.alloc (.cells zeros256 168))
    exact ⟨q1.trans b1.os, q2.trans b1.tape, q3.trans b1.output, by rw [q4]; exact b1.size, fun k hk => (heap_setCells_other' _ _ _ _ _ (by omega)).trans (b1.block k hk)⟩
  have s1 : w.drew.drew.cell? ⟨pa, 0, none⟩ = some (.int .i64 (a : Int)) := p1
  have s2 : w.drew.drew.cell? ⟨pd, 0, none⟩ = some (.pointer (some ⟨B, 0, none⟩)) := p2
  have s3 : w.drew.drew.cell? ⟨B, 0, none⟩ = some (.slice (some ⟨lb, 0, none⟩) d.ls.length d.ls.length) := c0
  have s4 : w.drew.drew.rangeAt lb (a * 256) (sec s0) := hsa
  have key : ∀ {W : World}, Below w.heap.size w W → W.cell? ⟨pa, 0, none⟩ = some (.int .i64 (a : Int)) ∧ W.cell? ⟨pd, 0, none⟩ = some (.pointer (some ⟨B, 0, none⟩)) ∧ W.cell? ⟨B, 0, none⟩ = some (.slice (some ⟨lb, 0, none⟩) d.ls.length d.ls.length) ∧ W.rangeAt lb (a * 256) (sec s0) ∧ W.cell? ⟨B, 1, none⟩ = some cv ∧ W.cell? ⟨B, 2, none⟩ = some (.map (some bm)) := fun hb => by
    have e : ∀ {k o : Nat} {v : Value}, w.cell? ⟨k, o, none⟩ = some v → _ := fun {k o v} hk => (World.cell?_of_block (a := ⟨k, o, none⟩) (hb.block k (block_lt_of_cell hk))).trans hk
    exact ⟨e p1, e p2, e c0, fun j v hv => e (hsa j v hv), e c1, e c2⟩
  obtain ⟨t1, t2, t3, t4, _, _⟩ := key b1
  obtain ⟨u1, u2, u3, u4, u5, u6⟩ := key b2
  have hu168 := und168
  have hsz0 : (sec s0).toArray.size = 256 := by simp [sec_len, hl]
  have hsec : (Try.prog.info? 168).map (·.size) = some (sec s0).length := by rw [sec_len, hl]; exact size168
  have i1 : (0 : Int) ≤ (a : Int) ∧ (a : Int) < (d.ls.length : Int) := by omega
  have g1 : decide ((a : Int) < 0) = false := decide_eq_false (by omega)
  have g2 : decide ((d.ls.length : Int) ≤ (a : Int)) = false := decide_eq_false (by omega)
  have HD := Lib.hid h
  have HT := Lib.hid hth
  have HW2 := Lib.hid hW2b
  have HB2 := Lib.hid b2
  have T4 := Lib.hid t4
  have U4 := Lib.hid u4
  clear key hth hW2b b2 h hsa hW1b b1 c1 c2 c3 c4 c5 c6 c7 t4 u4
  go_enter Try.func92, Try.ntmps92
  go_wp2
  go_region
  all_goals go_wp2
  refine wp_region_held_drew (S := (fun w' => w'.cell? ⟨pa, 0, none⟩ = some (.int .i64 (a : Int)) ∧ w'.cell? ⟨pd, 0, none⟩ = some (.pointer (some ⟨B, 0, none⟩)) ∧ w'.cell? ⟨B, 0, none⟩ = some (.slice (some ⟨lb, 0, none⟩) d.ls.length d.ls.length) ∧ w'.rangeAt lb (a * 256) (sec s0))) (by kernel_rfl) ⟨s1, s2, s3, s4⟩ (fun hHeld => ?_)
  refine wpAnyH_take (i := 0) (oi := ⟨some 18, _, _, _, _, _⟩) (v := (.pointer (some ⟨B, 0, none⟩))) rfl (by kernel_rfl) (by kernel_rfl) (by kernel_rfl) (fun _ _ _ h => h) (Or.inl ⟨by rfl, ?_⟩) (by assumption) ?_
  · intro w' hSw
    obtain ⟨e0, e1, e2, e3⟩ := hSw
    go_simp
  try simp only [Act.put, List.setIfInBounds_toArray, List.set_cons_zero, List.set_cons_succ]
  refine wpAnyH_take (i := 1) (oi := ⟨some 19, _, _, _, _, _⟩) (v := (.pointer (some ⟨B, 0, none⟩))) rfl (by kernel_rfl) (by kernel_rfl) (by kernel_rfl) (fun _ _ _ h => h) (Or.inl ⟨by rfl, ?_⟩) (by assumption) ?_
  · intro w' hSw
    obtain ⟨e0, e1, e2, e3⟩ := hSw
    go_simp
  try simp only [Act.put, List.setIfInBounds_toArray, List.set_cons_zero, List.set_cons_succ]
  refine wpAnyH_take (i := 2) (oi := ⟨some 20, _, _, _, _, _⟩) (v := (.pointer (some ⟨B, 0, none⟩))) rfl (by kernel_rfl) (by kernel_rfl) (by kernel_rfl) (fun _ _ _ h => h) (Or.inl ⟨by rfl, ?_⟩) (by assumption) ?_
  · intro w' hSw
    obtain ⟨e0, e1, e2, e3⟩ := hSw
    go_simp
  try simp only [Act.put, List.setIfInBounds_toArray, List.set_cons_zero, List.set_cons_succ]
  refine wpAnyH_take (i := 3) (oi := ⟨some 21, _, _, _, _, _⟩) (v := (.slice (some ⟨lb, 0, none⟩) d.ls.length d.ls.length)) rfl (by kernel_rfl) (by kernel_rfl) (by kernel_rfl) (fun _ _ _ h => h) (Or.inl ⟨by rfl, ?_⟩) (by assumption) ?_
  · intro w' hSw
    obtain ⟨e0, e1, e2, e3⟩ := hSw
    go_simp
  try simp only [Act.put, List.setIfInBounds_toArray, List.set_cons_zero, List.set_cons_succ]
  refine wpAnyH_take (i := 4) (oi := ⟨some 22, _, _, _, _, _⟩) (v := (.int .i64 (a : Int))) rfl (by kernel_rfl) (by kernel_rfl) (by kernel_rfl) (fun _ _ _ h => h) (Or.inl ⟨by rfl, ?_⟩) (by assumption) ?_
  · intro w' hSw
    obtain ⟨e0, e1, e2, e3⟩ := hSw
    go_simp
  try simp only [Act.put, List.setIfInBounds_toArray, List.set_cons_zero, List.set_cons_succ]
  refine wpAnyH_take (i := 5) (oi := ⟨some 23, _, _, _, _, _⟩) (v := (.pointer (some ⟨lb, a * 256, none⟩))) rfl (by kernel_rfl) (by kernel_rfl) (by kernel_rfl) (fun _ _ _ h => h) (Or.inl ⟨by rfl, ?_⟩) (by assumption) ?_
  · intro w' hSw
    obtain ⟨e0, e1, e2, e3⟩ := hSw
    go_simp
  try simp only [Act.put, List.setIfInBounds_toArray, List.set_cons_zero, List.set_cons_succ]
  refine wpAnyH_take (i := 6) (oi := ⟨some 24, _, _, _, _, _⟩) (v := .agg (sec s0).toArray) rfl (by kernel_rfl) (by kernel_rfl) (by kernel_rfl) (fun _ _ _ h => h) (yieldsIf_load_mid (by rfl) _ _ rfl _ _ rfl _ _ (fun _ hw => hw.2.2.2) hu168 rfl hsec) (by assumption) ?_
  try simp only [Act.put, List.setIfInBounds_toArray, List.set_cons_zero, List.set_cons_succ]
  refine wpAnyH_ready (rs := [7]) (by kernel_rfl) (by simp) ?_
  refine AllReadyH.cons (o := ⟨some 4, _, _, _, _, _⟩) rfl (fun K hK => ?_) AllReadyH.nil
  rw [if_pos (by rfl)]
  refine wp_alloc168 rfl ?_
  try simp only [Act.put, List.setIfInBounds_toArray, List.set_cons_zero, List.set_cons_succ]
  refine hK.out _ _ ⟨t1, t2, t3, T4.out⟩ (fun _ => ?_)
  clear hK K
  refine wpAnyH_ready (rs := [8]) (by kernel_rfl) (by simp) ?_
  refine AllReadyH.cons (o := ⟨none, _, _, _, _, _⟩) rfl (fun K hK => ?_) AllReadyH.nil
  rw [if_pos (by rfl)]
  refine wp_store_mid 168 _ _ rfl w.heap.size 0 (sec s0).toArray rfl rfl (by rw [hsz0]; exact HT.out) (by rw [hsz0]; exact size168) (all_oneCell_toArray (sec_one _)) ?_
  try simp only [Act.put, List.setIfInBounds_toArray, List.set_cons_zero, List.set_cons_succ]
  refine hK.out _ _ ⟨u1, u2, u3, U4.out⟩ (fun _ => ?_)
  clear hK K
  refine wpAnyH_done (by kernel_rfl) ?_ _
  clear hHeld
  generalize hW2 : (w.drew.drew.alloc (.cells zeros256 168)).setCells w.heap.size 0 (sec s0) = W2 at *
  have HDW := Lib.hid (HD.out.below HB2.out)
  obtain ⟨c, hlk, hj⟩ := (HDW.out.below (drew_b _)).look a (by omega)
  obtain ⟨d0, d1, d2, _, _, _, _, _, _⟩ := HDW.out.cells
  have u1' : W2.drew.cell? ⟨pa, 0, none⟩ = some (.int .i64 (a : Int)) := u1
  have u2' : W2.drew.cell? ⟨pd, 0, none⟩ = some (.pointer (some ⟨B, 0, none⟩)) := u2
  have u6' : W2.drew.cell? ⟨B, 2, none⟩ = some (.map (some bm)) := u6
  have hco := (HB2.out.block po (heap_lt' co)).trans co
  have hpo := heap_lt' co
  have hsl8 := slice168 w.heap.size
  have hW2l := heap_lt' HW2.out
  clear hu168 hsec co s1 s2 s3 s4 t1 t2 t3 c0 p1 p2
  rcases hlo : lastOf d.cs a with _ | j
  · rw [hlo] at hlk
    simp only [Option.isSome_none] at hlk
    go_wp2
    go_region_held3 (fun w' => w'.cell? ⟨pa, 0, none⟩ = some (.int .i64 (a : Int)) ∧ w'.cell? ⟨pd, 0, none⟩ = some (.pointer (some ⟨B, 0, none⟩)) ∧ w'.cell? ⟨B, 2, none⟩ = some (.map (some bm))) (first | assumption | exact ⟨by assumption, by assumption, by assumption⟩) (first | fail)
    have hsl : Sl 0 W2.drew.heap.size f8 W2.drew (.slice (some ⟨w.heap.size, 0, none⟩) 256 256) s0 := ⟨some ⟨w.heap.size, 0, none⟩, 256, by rw [hl], by omega, (fun h => by cases h), fun _ => ⟨w.heap.size, 0, rfl, Nat.zero_le _, heap_lt' (show W2.drew.heap[w.heap.size]? = _ from HW2.out), fun q hq => by
      rw [Nat.zero_add, cell_of_row _ _ _ _ _ _ (show W2.drew.heap[w.heap.size]? = _ from HW2.out)]
      simp [sec, hq]⟩, by omega⟩
    have HC := Lib.hid (clone_any 0 W2.drew.heap.size W2.drew _ s0 hsl (Nat.le_refl _))
    clear hsl
    all_goals go_wp2_with (first
      | (go_at_call 50; refine Calls.mono HC.out ?_; rintro e w4 ⟨v', rfl, hown, hb4⟩; obtain ⟨va, vc, rfl⟩ := own_slice hown; have hco4 := (hb4.block po (Nat.lt_of_lt_of_le hpo (show w.heap.size ≤ W2.drew.heap.size from HB2.out.size))).trans (show W2.drew.heap[po]? = _ from hco); have z1 : w4.cell? ⟨po, 0, none⟩ = some ov := (cell_of_row _ _ _ _ _ _ hco4).trans rfl; have z2 : w4.frozen? ⟨po, 0, none⟩ = false := frozen_of_row _ _ _ _ _ hco4; have HO4 := Lib.hid hown; have HB4 := Lib.hid hb4; have HCO := Lib.hid hco4; clear hown hb4 hco4))
    go_ret
    have hb5 : Below w.heap.size w w4 := (show Below w.heap.size w W2.drew from ⟨HB2.out.os, HB2.out.tape, HB2.out.output, HB2.out.size, HB2.out.block⟩).trans (HB4.out.mono (show w.heap.size ≤ W2.drew.heap.size from HB2.out.size))
    have hl5 : s0.length = 256 := hl
    have HO4 := Lib.hid (show w4.ownsRow W2.drew.heap.size 5 1 (.slice va 256 vc) 256 (s0.map f8) from by have := HO4.out; rw [hl5] at this; exact this)
    refine ⟨rfl, ⟨hb5.os, hb5.tape, hb5.output, by simpa using hb5.size, fun k hk hne _ => (heap_setCell_other _ _ _ _ hne).trans (hb5.block k hk)⟩, .slice va 256 vc, by rw [heap_setCell_same _ _ _ _ _ _ HCO.out]; rfl, ?_⟩
    have hg : d.get a = s0 := by unfold Dsk.get; rw [hlo, ← hs0]; simp [List.getD, ha]
    rw [hg]
    have ho := own_of_same (w' := w4.setCell ⟨po, 0, none⟩ (.slice va 256 vc)) HO4.out (fun k hk => heap_setCell_other _ _ _ _ (Nat.ne_of_gt (Nat.lt_of_lt_of_le hpo (Nat.le_trans (show w.heap.size ≤ W2.drew.heap.size from HB2.out.size) (HO4.out.lt k hk).1))))
    exact own_low ho (show w.heap.size ≤ W2.drew.heap.size from HB2.out.size)
  · rw [hlo] at hlk
    simp only [Option.isSome_some] at hlk
    obtain ⟨c', hc1, hc2⟩ := lastOf_some d.cs a j hlo
    have jl : j < d.cs.length := (List.getElem?_eq_some_iff.1 hc1).1
    have hcj : c = (j : Int) := hj j hlo
    subst hcj
    obtain ⟨g, cap, hcv, _, _⟩ := own_shape HD.out.cache (by omega)
    subst hcv
    have hr := (HDW.out.below (drew_b _)).write rfl j jl
    have hl1 := (HD.out.ok.2 _ (List.getElem_mem jl)).1
    generalize hs1 : d.cs[j].2 = s1 at hl1
    have hr1 : W2.drew.rangeAt g (j * 257 + 1) (sec s1) := fun q v hv => by
      have := hr (q + 1) v (by unfold wcl; rw [hs1]; simpa using hv)
      rw [← this]
      congr 2
      omega
    have hsec1 : (Try.prog.info? 168).map (·.size) = some (sec s1).length := by rw [sec_len, hl1]; exact size168
    have hsz1 : (sec s1).toArray.size = 256 := by simp [sec_len, hl1]
    have hth2 : W2.drew.there w.heap.size 0 256 := there_of (show W2.drew.heap[w.heap.size]? = _ from HW2.out) hsz0
    have HTH := Lib.hid hth2
    have HR1 := Lib.hid hr1
    have HSEC1 := Lib.hid hsec1
    have hw3b := heap_sector (show W2.drew.heap[w.heap.size]? = _ from HW2.out) hsz0 s1 hl1
    have b3 : Below w.heap.size w (W2.drew.setCells w.heap.size 0 (sec s1)) := by
      obtain ⟨q1, q2, q3, q4⟩ := setCells_rest w.heap.size (sec s1) 0 W2.drew
      exact ⟨q1.trans HB2.out.os, q2.trans HB2.out.tape, q3.trans HB2.out.output, by rw [q4]; exact HB2.out.size, fun k hk => (heap_setCells_other' _ _ _ _ _ (by omega)).trans (HB2.out.block k hk)⟩
    have hco3 := (heap_setCells_other' w.heap.size (sec s1) 0 W2.drew po (by omega)).trans (show W2.drew.heap[po]? = _ from hco)
    have HW3 := Lib.hid hw3b
    have HB3 := Lib.hid b3
    have u5' : W2.drew.cell? ⟨B, 1, none⟩ = some (.slice (some ⟨g, 0, none⟩) d.cs.length cap) := u5
    have i2 : (0 : Int) ≤ (j : Int) ∧ (j : Int) < (d.cs.length : Int) := by omega
    clear hr hr1 hsec1 hth2 hw3b b3
    go_wp2
    go_region_held3 (fun w' => w'.cell? ⟨pa, 0, none⟩ = some (.int .i64 (a : Int)) ∧ w'.cell? ⟨pd, 0, none⟩ = some (.pointer (some ⟨B, 0, none⟩)) ∧ w'.cell? ⟨B, 2, none⟩ = some (.map (some bm))) (first | assumption | exact ⟨by assumption, by assumption, by assumption⟩) (first | fail)
    have hsl : Sl 0 (W2.drew.setCells w.heap.size 0 (sec s1)).heap.size f8 (W2.drew.setCells w.heap.size 0 (sec s1)) (.slice (some ⟨w.heap.size, 0, none⟩) 256 256) s1 := ⟨some ⟨w.heap.size, 0, none⟩, 256, by rw [hl1], by omega, (fun h => by cases h), fun _ => ⟨w.heap.size, 0, rfl, Nat.zero_le _, heap_lt' HW3.out, fun q hq => by
      rw [Nat.zero_add, cell_of_row _ _ _ _ _ _ HW3.out]
      simp [sec, hq]⟩, by omega⟩
    have HC := Lib.hid (clone_any 0 (W2.drew.setCells w.heap.size 0 (sec s1)).heap.size (W2.drew.setCells w.heap.size 0 (sec s1)) _ s1 hsl (Nat.le_refl _))
    clear hsl
    all_goals go_wp2_with (first
      | (with_reducible refine wpList_load_mid rfl 168 _ rfl g (j * 257 + 1) rfl (sec s1) (.array 256 5) HR1.out und168 rfl HSEC1.out ?_)
      | (with_reducible refine wpList_store_mid rfl 168 _ _ rfl w.heap.size 0 (sec s1).toArray rfl rfl (by rw [hsz1]; exact HTH.out) (by rw [hsz1]; exact size168) (all_oneCell_toArray (sec_one _)) ?_; rw [List.toList_toArray])
      | (go_at_call 50; refine Calls.mono HC.out ?_; rintro e w4 ⟨v', rfl, hown, hb4⟩; obtain ⟨va, vc, rfl⟩ := own_slice hown; have hco4 := (hb4.block po (Nat.lt_of_lt_of_le hpo HB3.out.size)).trans hco3; have z1 : w4.cell? ⟨po, 0, none⟩ = some ov := (cell_of_row _ _ _ _ _ _ hco4).trans rfl; have z2 : w4.frozen? ⟨po, 0, none⟩ = false := frozen_of_row _ _ _ _ _ hco4; have HO4 := Lib.hid hown; have HB4 := Lib.hid hb4; have HCO := Lib.hid hco4; clear hown hb4 hco4))
    go_ret
    have hb5 : Below w.heap.size w w4 := HB3.out.trans (HB4.out.mono HB3.out.size)
    have hl5 : s1.length = 256 := hl1
    have HO4 := Lib.hid (show w4.ownsRow (W2.drew.setCells w.heap.size 0 (sec s1)).heap.size 5 1 (.slice va 256 vc) 256 (s1.map f8) from by have := HO4.out; rw [hl5] at this; exact this)
    refine ⟨rfl, ⟨hb5.os, hb5.tape, hb5.output, by simpa using hb5.size, fun k hk hne _ => (heap_setCell_other _ _ _ _ hne).trans (hb5.block k hk)⟩, .slice va 256 vc, by rw [heap_setCell_same _ _ _ _ _ _ HCO.out]; rfl, ?_⟩
    have hg : d.get a = s1 := by unfold Dsk.get; rw [hlo]; simp [List.getD, jl, hs1]
    rw [hg]
    have ho := own_of_same (w' := w4.setCell ⟨po, 0, none⟩ (.slice va 256 vc)) HO4.out (fun k hk => heap_setCell_other _ _ _ _ (Nat.ne_of_gt (Nat.lt_of_lt_of_le hpo (Nat.le_trans HB3.out.size (HO4.out.lt k hk).1))))
    exact own_low ho HB3.out.size
end Go.Proofs.Ytnplcfgjidolbaa
end
section
namespace Go.Proofs.Ytnplcfgjidolbaa
open Go.RowKit Go.Maps

set_option maxRecDepth 100000 in
theorem read1_range (w : World) (base B lb bm : Nat) (cv : Value) (d : Dsk) (pa pd po : Nat) (a : Int) (h : Dk w base B lb bm cv d) (ha : a < 0 ∨ (d.ls.length : Int) ≤ a)
    (ca : w.heap[pa]? = some (.cells #[.int .i64 a] 3 (0, 0))) (cd : w.heap[pd]? = some (.cells #[.pointer (some ⟨B, 0, none⟩)] 92 (0, 0))) :
    Calls Try.prog 92 #[.pointer (some ⟨pa, 0, none⟩), .pointer (some ⟨pd, 0, none⟩), .pointer (some ⟨po, 0, none⟩)] w fun e w' => e = .returned (.int .u16 2) ∧ Below w.heap.size w w' := by
  obtain ⟨c0, c1, c2, c3, c4, c5, c6, c7, fz⟩ := h.cells
  have p1 : w.cell? ⟨pa, 0, none⟩ = some (.int .i64 a) := (cell_of_row _ _ _ _ _ _ ca).trans rfl
  have p2 : w.cell? ⟨pd, 0, none⟩ = some (.pointer (some ⟨B, 0, none⟩)) := (cell_of_row _ _ _ _ _ _ cd).trans rfl
  clear h ca cd
  rcases Int.lt_or_le a 0 with h0 | h0
  · have g1 : decide (a < 0) = true := decide_eq_true h0
    go_enter Try.func92, Try.ntmps92
    go_wp2
    go_region
    all_goals go_wp2
    go_ret
    exact ⟨rfl, rfl, rfl, rfl, Nat.le_refl _, fun _ _ => rfl⟩
  · have g1 : decide (a < 0) = false := decide_eq_false (by omega)
    have g2 : decide ((d.ls.length : Int) ≤ a) = true := decide_eq_true (by omega)
    go_enter Try.func92, Try.ntmps92
    go_wp2
    go_region
    all_goals go_wp2
    go_ret
    exact ⟨rfl, rfl, rfl, rfl, Nat.le_refl _, fun _ _ => rfl⟩

/-- A read. -/
def Dsk.reads (d : Dsk) (a : Int) : Dsk × Option (List UInt8) × Int :=
  if (d.begins).2 = false then ((d.begins).1, none, 4) else
  if a < 0 ∨ (d.ls.length : Int) ≤ a then ({ (d.begins).1 with rd := (d.begins).1.rd + 1 }, none, 2) else ({ (d.begins).1 with rd := (d.begins).1.rd + 1 }, some (d.get a.toNat), 0)
/-- What comes out of a read. -/
def OutV (w : World) (base : Nat) (v : Value) : Option (List UInt8) → Prop
  | none => v = .slice none 0 0
  | some s => s.length = 256 ∧ w.ownsRow base 5 1 v 256 (s.map f8)
theorem OutV.shape {w : World} {base : Nat} {v : Value} {o : Option (List UInt8)} (h : OutV w base v o) : ∃ ao n cap, v = .slice ao n cap := by
  cases o with
  | none => exact ⟨_, _, _, h⟩
  | some s => obtain ⟨ao, cap, hv⟩ := own_slice h.2; exact ⟨_, _, _, hv⟩
theorem get_len {d : Dsk} (h : d.ok) (a : Nat) (ha : a < d.ls.length) : (d.get a).length = 256 := by
  unfold Dsk.get
  split
  · next j hj =>
    obtain ⟨c, h1, _⟩ := lastOf_some d.cs a j hj
    have hl := (List.getElem?_eq_some_iff.1 h1).1
    have e : d.cs.getD j (0, []) = c := by simp [List.getD, h1]
    rw [e]
    exact (h.2 c (List.mem_of_getElem? h1)).1
  · simp [List.getD, ha]
    exact h.1 _ (List.getElem_mem ha)
theorem begins_get (d : Dsk) (a : Nat) (n : Int) : ({ (d.begins).1 with rd := n } : Dsk).get a = d.get a := by
  obtain ⟨h1, h2⟩ := begins_len d
  unfold Dsk.get
  simp only [h1, h2]

/-- The disk's own blocks are as they were. -/
theorem Dk.other {w w' : World} {base B lb bm : Nat} {cv : Value} {d : Dsk} (h : Dk w base B lb bm cv d) (hB : w'.heap[B]? = w.heap[B]?) (hl : w'.heap[lb]? = w.heap[lb]?) (hm : w'.heap[bm]? = w.heap[bm]?) (hc : ∀ k, cv.ownBlock = some k → w'.heap[k]? = w.heap[k]?) : Dk w' base B lb bm cv d := by
  obtain ⟨D, h1, h2⟩ := h.seen
  exact ⟨hB.trans h.top, hl.trans h.las, own_of_same h.cache hc, ⟨D, map_kept h1 hm, h2⟩, h.ok, h.lo⟩
theorem Dk.lts {w : World} {base B lb bm : Nat} {cv : Value} {d : Dsk} (h : Dk w base B lb bm cv d) : B < w.heap.size ∧ lb < w.heap.size ∧ bm < w.heap.size ∧ ∀ k, cv.ownBlock = some k → k < w.heap.size := by
  obtain ⟨D, ⟨es, cl, h1, _⟩, h2⟩ := h.seen
  exact ⟨heap_lt' h.top, heap_lt' h.las, heap_lt' h1, fun k hk => (h.cache.lt k hk).2⟩
set_option maxRecDepth 100000 in
theorem read_results {W : World} {b : Nat} {va : Option Addr} {vn vc : Nat} {k : Int} (tmps : Array Value) (h4 : tmps.getD 4 undef = .pointer (some ⟨b, 0, none⟩)) (h5 : tmps.getD 5 undef = .int .u16 k) (q : W.cell? ⟨b, 0, none⟩ = some (.slice va vn vc)) :
    (results Try.f39 tmps).run Try.prog W = .ok (.tuple #[.slice va vn vc, .int .u16 k]) W := by
  have h4' : tmps[4]?.getD undef = .pointer (some ⟨b, 0, none⟩) := by simpa using h4
  have h5' : tmps[5]?.getD undef = .int .u16 k := by simpa using h5
  simp [results, Try.results39, go_sem, h4', h5', q]
theorem OutV.same {w w' : World} {base : Nat} {v : Value} {o : Option (List UInt8)} (h : OutV w base v o) (hs : ∀ k, v.ownBlock = some k → w'.heap[k]? = w.heap[k]?) : OutV w' base v o := by
  cases o with
  | none => exact h
  | some s => exact ⟨h.1, own_of_same h.2 hs⟩

set_option maxRecDepth 100000 in
theorem dread_any (w : World) (base B lb bm : Nat) (cv : Value) (d : Dsk) (a : Int) (h : Dk w base B lb bm cv d) (hd : Small d) :
    Calls Try.prog 39 #[.pointer (some ⟨B, 0, none⟩), .int .i64 a] w fun e w' => ∃ v, e = .returned (.tuple #[v, .int .u16 (d.reads a).2.2]) ∧ Dk w' base B lb bm cv (d.reads a).1 ∧ Dfr base w w' ∧ OutV w' w.heap.size v (d.reads a).2.1 := by
  have hsz : base ≤ w.heap.size := by have := h.lo.1; have := heap_lt' h.top; omega
  have hb3 : Below w.heap.size w ((((w.alloc (.cells #[.pointer (some ⟨B, 0, none⟩)] 92)).alloc (.cells #[.int .i64 a] 3)).alloc (.cells #[.slice none 0 0] 22)).drew) :=
    ((((Below.refl _ _).alloc (Nat.le_refl _) _).alloc (by simp) _).alloc (by simp; omega) _).trans ⟨rfl, rfl, rfl, Nat.le_refl _, fun _ _ => rfl⟩
  have k0 : ((((w.alloc (.cells #[.pointer (some ⟨B, 0, none⟩)] 92)).alloc (.cells #[.int .i64 a] 3)).alloc (.cells #[.slice none 0 0] 22)).drew).heap[w.heap.size]? = some (.cells #[.pointer (some ⟨B, 0, none⟩)] 92 (0, 0)) := by
    rw [heap_drew, Below.heap_alloc _ _ _ (by simp; omega), Below.heap_alloc _ _ _ (by simp), heap_alloc_new]
  have k1 : ((((w.alloc (.cells #[.pointer (some ⟨B, 0, none⟩)] 92)).alloc (.cells #[.int .i64 a] 3)).alloc (.cells #[.slice none 0 0] 22)).drew).heap[w.heap.size + 1]? = some (.cells #[.int .i64 a] 3 (0, 0)) := by
    have e : w.heap.size + 1 = (w.alloc (.cells #[.pointer (some ⟨B, 0, none⟩)] 92)).heap.size := by simp
    rw [heap_drew, Below.heap_alloc _ _ _ (by simp), e, heap_alloc_new]
  have k2 : ((((w.alloc (.cells #[.pointer (some ⟨B, 0, none⟩)] 92)).alloc (.cells #[.int .i64 a] 3)).alloc (.cells #[.slice none 0 0] 22)).drew).heap[w.heap.size + 1 + 1]? = some (.cells #[.slice none 0 0] 22 (0, 0)) := by
    have e : w.heap.size + 1 + 1 = ((w.alloc (.cells #[.pointer (some ⟨B, 0, none⟩)] 92)).alloc (.cells #[.int .i64 a] 3)).heap.size := by simp
    rw [heap_drew, e, heap_alloc_new]
  obtain ⟨hBl, hll, hml, hcl⟩ := h.lts
  have hok := h.ok
  have hk := h.below hb3
  have hbeg := begins_len d
  have hdf : Dfr base w ((((w.alloc (.cells #[.pointer (some ⟨B, 0, none⟩)] 92)).alloc (.cells #[.int .i64 a] 3)).alloc (.cells #[.slice none 0 0] 22)).drew) := Dfr.ofBelow hb3 hsz
  generalize hw3 : ((((w.alloc (.cells #[.pointer (some ⟨B, 0, none⟩)] 92)).alloc (.cells #[.int .i64 a] 3)).alloc (.cells #[.slice none 0 0] 22)).drew) = w3 at *
  have hc : Calls Try.prog 88 #[.pointer (some ⟨B, 0, none⟩), .pointer (some ⟨B, 5, none⟩), .func (.func 92) #[] #[.pointer (some ⟨w.heap.size + 1, 0, none⟩), .pointer (some ⟨w.heap.size, 0, none⟩), .pointer (some ⟨w.heap.size + 1 + 1, 0, none⟩)]] w3
      fun e w' => ∃ k, e = .returned (.int .u16 k) ∧ (k = (d.reads a).2.2 ∧ ∃ v, w'.heap[w.heap.size + 1 + 1]? = some (.cells #[v] 22 (0, 0)) ∧ w'.heap[w.heap.size]? = some (.cells #[.pointer (some ⟨B, 0, none⟩)] 92 (0, 0)) ∧ Dk w' base B lb bm cv (d.reads a).1 ∧ Dfr base w w' ∧ OutV w' w.heap.size v (d.reads a).2.1) := by
    refine op_92 w3 base B lb bm cv d _ _ _ (fun k w' => k = (d.reads a).2.2 ∧ ∃ v, w'.heap[w.heap.size + 1 + 1]? = some (.cells #[v] 22 (0, 0)) ∧ w'.heap[w.heap.size]? = some (.cells #[.pointer (some ⟨B, 0, none⟩)] 92 (0, 0)) ∧ Dk w' base B lb bm cv (d.reads a).1 ∧ Dfr base w w' ∧ OutV w' w.heap.size v (d.reads a).2.1) hk hd.rd hd.trip (fun hb w' hd' hf => ?_) (fun hb w' hd' hf hs' => ?_)
    · unfold Dsk.reads
      rw [if_pos hb]
      exact ⟨rfl, _, (hf.keep _ _ _ _ k2 (by decide) (by decide) (by decide)).trans k2, (hf.keep _ _ _ _ k0 (by decide) (by decide) (by decide)).trans k0, hd', hdf.trans hf, rfl⟩
    · have k0' := (hs' _ (show w.heap.size ≠ B by omega)).trans k0
      have k1' := (hs' _ (show w.heap.size + 1 ≠ B by omega)).trans k1
      have k2' := (hs' _ (show w.heap.size + 1 + 1 ≠ B by omega)).trans k2
      have hsz' : base ≤ w'.heap.size := by have := hd'.lo.1; have := heap_lt' hd'.top; omega
      unfold Dsk.reads
      rw [if_neg (by rw [hb]; simp)]
      by_cases ha : a < 0 ∨ (d.ls.length : Int) ≤ a
      · rw [if_pos ha]
        refine (read1_range w' base B lb bm cv _ _ _ _ a hd' (by rw [hbeg.1]; exact ha) k1' k0').mono fun e w'' ⟨h1, h2⟩ => ⟨_, h1, rfl, _, (h2.block _ (heap_lt' k2')).trans k2', (h2.block _ (heap_lt' k0')).trans k0', hd'.below h2, (hdf.trans hf).trans (Dfr.ofBelow h2 hsz'), rfl⟩
      · rw [if_neg ha]
        obtain ⟨m, rfl⟩ := Int.eq_ofNat_of_zero_le (show 0 ≤ a by omega)
        refine (read1_ok w' base B lb bm cv _ _ _ _ m _ hd' (by rw [hbeg.1]; omega) (by rw [hbeg.1]; exact hd.ls) (by rw [hbeg.2]; exact hd.cs) k1' k0' k2').mono ?_
        rintro e w'' ⟨h1, h2, v', h3, h4⟩
        rw [begins_get] at h4
        have hne : w.heap.size + 1 + 1 ≠ B := by omega
        have hg2 : Below w.heap.size w' w'' := h2.below (by have := hdf.below.size; have := hf.below.size; omega) (by omega) (by simp)
        have hww : w.heap.size ≤ w'.heap.size := (hdf.trans hf).below.size
        have hkeep : ∀ k, k < w'.heap.size → k ≠ w.heap.size + 1 + 1 → w''.heap[k]? = w'.heap[k]? := fun k hk hne => h2.block k hk hne (by simp)
        refine ⟨_, h1, rfl, v', h3, (hkeep _ (heap_lt' k0') (by omega)).trans k0', hd'.other (hkeep _ (by omega) (by omega)) (hkeep _ (by omega) (by omega)) (hkeep _ (by omega) (by omega)) (fun k hk => hkeep k (by have := hcl k hk; omega) (by have := hcl k hk; omega)), ⟨(hdf.trans hf).below.trans (hg2.mono hsz), fun k cs t fr hk a1 a2 a3 => (hkeep k (by have := heap_lt' hk; omega) (by have := heap_lt' hk; omega)).trans ((hdf.trans hf).keep k cs t fr hk a1 a2 a3)⟩, get_len hok m (by omega), own_low h4 (by have := hdf.below.size; have := hf.below.size; omega)⟩
  have HC := Lib.hid hc
  have s0 : w3.cell? ⟨w.heap.size, 0, none⟩ = some (.pointer (some ⟨B, 0, none⟩)) := (cell_of_row _ _ _ _ _ _ k0).trans rfl
  clear hc hk hdf hb3 h k0 k1 k2
  subst hw3
  go_enter Try.func39, Try.ntmps39
  go_wp2
  go_region_held3 (fun w' => w'.cell? ⟨w.heap.size, 0, none⟩ = some (.pointer (some ⟨B, 0, none⟩))) (first | assumption) (first
    | (go_at_call 88; refine Calls.mono HC.out ?_; rintro e w4 ⟨k, rfl, hk, v, hv4, hk4, hd4, hf4, ho4⟩; have HF := Lib.hid (And.intro hk (And.intro hd4 (And.intro hf4 ho4))); obtain ⟨va, vn, vc, rfl⟩ := ho4.shape; have HV4 := Lib.hid hv4; have z1 : w4.cell? ⟨w.heap.size, 0, none⟩ = some (.pointer (some ⟨B, 0, none⟩)) := (cell_of_row _ _ _ _ _ _ hk4).trans rfl; have z2 : w4.cell? ⟨w.heap.size + 1 + 1, 0, none⟩ = some (.slice va vn vc) := (cell_of_row _ _ _ _ _ _ hv4).trans rfl; have z3 : w4.frozen? ⟨w.heap.size + 1 + 1, 0, none⟩ = false := frozen_of_row _ _ _ _ _ hv4; clear hk hd4 hf4 hk4 ho4 hv4))
  all_goals go_wp2
  obtain ⟨r1, r2, r3, r4⟩ := HF.out
  have hs4 := r3.below.size
  have hv4' := HV4.out
  refine bodyPost_ret (read_results _ rfl rfl ((cell_of_row _ _ _ _ _ _ (heap_setCell_same _ _ _ _ _ _ hv4')).trans rfl)) rfl ?_
  subst r1
  have hset : ∀ k, k ≠ w.heap.size + 1 + 1 → (w4.setCell ⟨w.heap.size + 1 + 1, 0, none⟩ (.slice va vn vc)).heap[k]? = w4.heap[k]? := fun k hk => heap_setCell_other _ _ _ _ hk
  refine ⟨_, rfl, r2.other (hset _ (by omega)) (hset _ (by omega)) (hset _ (by omega)) (fun k hk => hset _ (by have := hcl k hk; omega)), ⟨⟨r3.below.os, r3.below.tape, r3.below.output, by simpa using r3.below.size, fun k hk => (hset _ (by omega)).trans (r3.below.block k hk)⟩, fun k cs t fr hk a1 a2 a3 => (hset _ (by have := heap_lt' hk; omega)).trans (r3.keep k cs t fr hk a1 a2 a3)⟩, r4.same (fun k hk => hset _ (fun e => ?_))⟩
  cases ho : (d.reads a).2.1 with
  | none => rw [ho] at r4; rw [r4] at hk; cases hk
  | some s => rw [ho] at r4; exact own_not r4.2 hv4' (by decide) (by rw [hk, e])
end Go.Proofs.Ytnplcfgjidolbaa
end
