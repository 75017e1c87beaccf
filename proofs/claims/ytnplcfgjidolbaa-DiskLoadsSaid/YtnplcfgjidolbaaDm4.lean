/- A write into the disk's cache: the closure's walk. A write: the disk's method. An operation of the disk's: begun or not, counted, done. -/
import Derived.Test.YtnplcfgjidolbaaDm3
import Derived.Deep.RegionHeld3
import Derived.Deep.OwnRows
import Derived.Deep.QuietTactic
import Derived.BigQuiet
section
namespace Go.Proofs.Ytnplcfgjidolbaa
open Go.RowKit Go.Maps

set_option linter.unusedSimpArgs false
/-- A build, as it is carried out. -/
theorem exec_build {o : Oper} {a : Act} {w : World} {t : TypeId} {parts : Array (Nat × Operand)} (ho : o.op = .build t parts) {ps : List (Nat × Value)} (hp : (parts.map fun (i, x) => (i, a.eval x)).toList = ps) {cells : Array Value} (hc : Try.prog.built t ps = some cells) :
    (execOp a.eval o).run Try.prog w = .ok (.value (.agg cells)) w := by
  subst hp
  unfold execOp
  simp only [ho, Sem.run_bind, run_build w t _ cells hc, Result.andThen_ok]
  rfl
/-- A slice of one write, as it is laid. -/
theorem wp_bs162 {o : Oper} {a : Act} {w : World} {K : Act → World → Prop} {Q : Exit → Act → World → Prop} (parts : Array (Nat × Operand)) (ho : o.op = .buildSlice 162 1 parts) (cs : List Value) (hl : cs.length = 257) (hp : (parts.map fun (i, x) => (i, a.eval x)) = #[(0, .agg cs.toArray)])
    (h : K (a.put o.dst (.slice (some ⟨w.heap.size, 0, none⟩) 1 1)) (w.alloc (.cells cs.toArray 170))) : o.wp Try.prog a w K Q := by
  unfold Oper.wp execOp
  simp only [ho, hp, Sem.run_bind, run_bs162 w cs hl, Result.andThen_ok]
  exact h
theorem und168 : Try.prog.underlying 168 = some (.array 256 5) := by kernel_rfl
theorem size168 : (Try.prog.info? 168).map (·.size) = some 256 := by kernel_rfl
theorem sec_one (s : List UInt8) : ∀ u ∈ sec s, u.oneCell' = true := by
  intro u hu
  obtain ⟨_, _, rfl⟩ := List.mem_map.1 hu
  rfl
theorem wcl_one (c : Nat × List UInt8) : ∀ u ∈ wcl c, u.oneCell' = true := by
  intro u hu
  rcases List.mem_cons.1 hu with rfl | hu
  · rfl
  · exact sec_one _ u hu

/-- The store leaves what the region looks at. -/
theorem wst_store {w W : World} {base b0 B lb bm pa pd pb sb cap : Nat} {cv : Value} {a : Nat} {s : List UInt8} {d : Dsk} {cvr : Value} {n : Nat} {xs : List Value} (h : Wst w W base b0 B lb bm pa pd pb sb cap cv a s d cvr n xs) (v : Value) :
    (W.setCell ⟨B, 1, none⟩ v).cell? ⟨pa, 0, none⟩ = some (.int .i64 (a : Int)) ∧ (W.setCell ⟨B, 1, none⟩ v).cell? ⟨pd, 0, none⟩ = some (.pointer (some ⟨B, 0, none⟩)) ∧ (W.setCell ⟨B, 1, none⟩ v).cell? ⟨pb, 0, none⟩ = some (.slice (some ⟨sb, 0, none⟩) 256 cap) ∧ (W.setCell ⟨B, 1, none⟩ v).rangeAt sb 0 (sec s) := by
  obtain ⟨x1, x2, x3, _, _, x5, _⟩ := h.cells
  refine ⟨(World.cell?_of_block (heap_setCell_other _ _ _ _ (block_ne h.ca h.top (by decide)))).trans x1, (World.cell?_of_block (heap_setCell_other _ _ _ _ (block_ne h.cd h.top (by decide)))).trans x2, (World.cell?_of_block (heap_setCell_other _ _ _ _ (block_ne h.cb h.top (by decide)))).trans x3, fun j v hv => ?_⟩
  obtain ⟨cs, hc⟩ := own_block h.data sb rfl
  exact (World.cell?_of_block (heap_setCell_other _ _ _ _ (block_ne hc h.top (by decide)))).trans (x5 j v hv)

set_option maxHeartbeats 1000000 in
set_option maxRecDepth 100000 in
theorem write1_ok (w : World) (base B lb bm : Nat) (cv : Value) (d : Dsk) (pa pd pb : Nat) (a : Nat) (bv : Value) (s : List UInt8) (b0 : Nat) (h : Dk w base B lb bm cv d) (hs : w.ownsRow b0 5 1 bv s.length (s.map f8)) (hl : s.length = 256) (ha : a < d.ls.length) (hn : d.ls.length ≤ 16384) (hc : d.cs.length ≤ 100000000)
    (ca : w.heap[pa]? = some (.cells #[.int .i64 (a : Int)] 3 (0, 0))) (cd : w.heap[pd]? = some (.cells #[.pointer (some ⟨B, 0, none⟩)] 92 (0, 0))) (cb : w.heap[pb]? = some (.cells #[bv] 22 (0, 0))) :
    Calls Try.prog 89 #[.pointer (some ⟨pa, 0, none⟩), .pointer (some ⟨pd, 0, none⟩), .pointer (some ⟨pb, 0, none⟩)] w fun e w' => e = .returned (.int .u16 0) ∧ ∃ cv', Dk w' base B lb bm cv' { d with cs := d.cs ++ [(a, s)] } ∧ Dfr base w w' := by
  obtain ⟨c0, c1, c2, c3, c4, c5, c6, c7, fz⟩ := h.cells
  rw [hl] at hs
  obtain ⟨sb, cap, rfl, _, hsbh⟩ := own_shape hs (by omega)
  obtain ⟨av, cc, rfl⟩ := own_slice h.cache
  obtain ⟨D, hmap, hseen⟩ := h.seen
  obtain ⟨i0, hi0, hz⟩ := Option.map_eq_some_iff.1 info170
  simp only [Prod.mk.injEq] at hz
  obtain ⟨hz1, hsz0, hby0⟩ := hz
  obtain ⟨z0, hz0, hzs0⟩ := Option.map_eq_some_iff.1 hz1
  have p1 : w.cell? ⟨pa, 0, none⟩ = some (.int .i64 (a : Int)) := (cell_of_row _ _ _ _ _ _ ca).trans rfl
  have p2 : w.cell? ⟨pd, 0, none⟩ = some (.pointer (some ⟨B, 0, none⟩)) := (cell_of_row _ _ _ _ _ _ cd).trans rfl
  have p3 : w.cell? ⟨pb, 0, none⟩ = some (.slice (some ⟨sb, 0, none⟩) 256 cap) := (cell_of_row _ _ _ _ _ _ cb).trans rfl
  obtain ⟨w2, hmu, hown2, hgrow2⟩ := World.ownsMap.update (w := w.drew.drew) (key := .int .i64 (a : Int)) (val := .int .i64 (d.cs.length : Int)) hmap.drew.drew (int_keyed und3) und161 (by unfold maxLen; omega) (keyOf_int_mk und3 (WalkArith.wf_i64 (by omega))) (plainElem_int und3 (WalkArith.wf_i64 (by omega)))
  have hW : Wst w w2 base b0 B lb bm pa pd pb sb cap (.slice av d.cs.length cc) a s d (.slice av d.cs.length cc) d.cs.length (d.cs.flatMap wcl) :=
    wst_start h hs ca cd cb hown2 (seen_snoc hseen a s) ⟨hgrow2.os, hgrow2.tape, hgrow2.output, hgrow2.size, hgrow2.block⟩
  have hW1 := hW.below (W' := w2.drew) ⟨rfl, rfl, rfl, Nat.le_refl _, fun _ _ => rfl⟩
  have hW10 := hW1.below (W' := w2.drew.alloc (.cells (wcl (a, s)).toArray 170)) ((Below.refl _ _).alloc (Nat.le_refl _) _)
  obtain ⟨q1, q2, q3, r1, r2, q5, _⟩ := hW.cells
  obtain ⟨v1, v2, v3, v4, _, hv5, _⟩ := hW1.cells
  obtain ⟨x1, x2, x3, x4, _, hx5, _⟩ := hW10.cells
  have x4' : ((w2.alloc (.cells (wcl (a, s)).toArray 170)).drew).cell? ⟨B, 1, none⟩ = some (.slice av d.cs.length cc) := x4
  have HV5 := Lib.hid hv5
  have HX5 := Lib.hid hx5
  have HW10 := Lib.hid hW10
  have HD := Lib.hid h
  have hwl : (wcl (a, s)).length = 257 := by rw [wcl_len, hl]
  have HNEWS := Lib.hid (news_alloc w2.drew (wcl (a, s)) 170)
  have hbw10 : base ≤ (w2.drew.alloc (.cells (wcl (a, s)).toArray 170)).heap.size := by have := h.lo.1; have := heap_lt' hW10.top; omega
  have s1 : w.drew.drew.cell? ⟨pa, 0, none⟩ = some (.int .i64 (a : Int)) := p1
  have s2 : w.drew.drew.cell? ⟨pd, 0, none⟩ = some (.pointer (some ⟨B, 0, none⟩)) := p2
  have s3 : w.drew.drew.cell? ⟨B, 1, none⟩ = some (.slice av d.cs.length cc) := c1
  have s4 : w.drew.drew.cell? ⟨B, 2, none⟩ = some (.map (some bm)) := c2
  have hsec : (Try.prog.info? 168).map (·.size) = some (sec s).length := by rw [sec_len, hl]; exact size168
  have hsecl : (sec s).length = 256 := by rw [sec_len, hl]
  have harr : ∀ W : World, (Instr.arrayAt 168 (.slice (some ⟨sb, 0, none⟩) 256 cap)).run Try.prog W = .ok (.pointer (some ⟨sb, 0, none⟩)) W := fun W => by simp [Instr.arrayAt, run_underlying und168]
  have hu168 := und168
  have g1 : decide ((a : Int) < 0) = false := decide_eq_false (by omega)
  have g2 : decide ((d.ls.length : Int) ≤ (a : Int)) = false := decide_eq_false (by omega)
  clear h hs ca cd cb hmap hseen hown2 hgrow2 hW hW1 hW10 hv5 hx5 q5 c2 c3 c4 c5 c6 c7
  go_enter Try.func89, Try.ntmps89
  go_wp2
  go_region
  all_goals go_wp2
  go_region_held3 (fun w' => w'.cell? ⟨pa, 0, none⟩ = some (.int .i64 (a : Int)) ∧ w'.cell? ⟨pd, 0, none⟩ = some (.pointer (some ⟨B, 0, none⟩)) ∧ w'.cell? ⟨B, 1, none⟩ = some (.slice av d.cs.length cc) ∧ w'.cell? ⟨B, 2, none⟩ = some (.map (some bm))) (first | assumption | exact ⟨by assumption, by assumption, by assumption, by assumption⟩) (first | fail)
  all_goals go_wp2
  have v5 := HV5.out
  have x5 := HX5.out
  refine wp_region_held_drew (S := (fun w' => w'.cell? ⟨pa, 0, none⟩ = some (.int .i64 (a : Int)) ∧ w'.cell? ⟨pd, 0, none⟩ = some (.pointer (some ⟨B, 0, none⟩)) ∧ w'.cell? ⟨pb, 0, none⟩ = some (.slice (some ⟨sb, 0, none⟩) 256 cap) ∧ w'.rangeAt sb 0 (sec s))) (by kernel_rfl) ⟨v1, v2, v3, v5⟩ (fun hHeld => ?_)
  refine wpAnyH_take (i := 0) (oi := ⟨some 30, _, _, _, _, _⟩) (v := (.pointer (some ⟨B, 0, none⟩))) rfl (by kernel_rfl) (by kernel_rfl) (by kernel_rfl) (fun _ _ _ h => h) (Or.inl ⟨by rfl, ?_⟩) (by assumption) ?_
  · intro w' hSw
    obtain ⟨e1, e2, e4, e5⟩ := hSw
    go_simp
  try simp only [Act.put, List.setIfInBounds_toArray, List.set_cons_zero, List.set_cons_succ]
  refine wpAnyH_take (i := 1) (oi := ⟨some 31, _, _, _, _, _⟩) (v := (.pointer (some ⟨B, 0, none⟩))) rfl (by kernel_rfl) (by kernel_rfl) (by kernel_rfl) (fun _ _ _ h => h) (Or.inl ⟨by rfl, ?_⟩) (by assumption) ?_
  · intro w' hSw
    obtain ⟨e1, e2, e4, e5⟩ := hSw
    go_simp
  try simp only [Act.put, List.setIfInBounds_toArray, List.set_cons_zero, List.set_cons_succ]
  refine wpAnyH_take (i := 2) (oi := ⟨some 32, _, _, _, _, _⟩) (v := (.pointer (some ⟨B, 0, none⟩))) rfl (by kernel_rfl) (by kernel_rfl) (by kernel_rfl) (fun _ _ _ h => h) (Or.inl ⟨by rfl, ?_⟩) (by assumption) ?_
  · intro w' hSw
    obtain ⟨e1, e2, e4, e5⟩ := hSw
    go_simp
  try simp only [Act.put, List.setIfInBounds_toArray, List.set_cons_zero, List.set_cons_succ]
  refine wpAnyH_take (i := 3) (oi := ⟨some 33, _, _, _, _, _⟩) (v := (.pointer (some ⟨B, 1, none⟩))) rfl (by kernel_rfl) (by kernel_rfl) (by kernel_rfl) (fun _ _ _ h => h) (Or.inl ⟨by rfl, ?_⟩) (by assumption) ?_
  · intro w' hSw
    obtain ⟨e1, e2, e4, e5⟩ := hSw
    go_simp
  try simp only [Act.put, List.setIfInBounds_toArray, List.set_cons_zero, List.set_cons_succ]
  refine wpAnyH_take (i := 5) (oi := ⟨some 35, _, _, _, _, _⟩) (v := (.int .i64 (a : Int))) rfl (by kernel_rfl) (by kernel_rfl) (by kernel_rfl) (fun _ _ _ h => h) (Or.inl ⟨by rfl, ?_⟩) (by assumption) ?_
  · intro w' hSw
    obtain ⟨e1, e2, e4, e5⟩ := hSw
    go_simp
  try simp only [Act.put, List.setIfInBounds_toArray, List.set_cons_zero, List.set_cons_succ]
  refine wpAnyH_take (i := 6) (oi := ⟨some 36, _, _, _, _, _⟩) (v := (.slice (some ⟨sb, 0, none⟩) 256 cap)) rfl (by kernel_rfl) (by kernel_rfl) (by kernel_rfl) (fun _ _ _ h => h) (Or.inl ⟨by rfl, ?_⟩) (by assumption) ?_
  · intro w' hSw
    obtain ⟨e1, e2, e4, e5⟩ := hSw
    go_simp
  try simp only [Act.put, List.setIfInBounds_toArray, List.set_cons_zero, List.set_cons_succ]
  refine wpAnyH_take (i := 7) (oi := ⟨some 37, _, _, _, _, _⟩) (v := (.pointer (some ⟨sb, 0, none⟩))) rfl (by kernel_rfl) (by kernel_rfl) (by kernel_rfl) (fun _ _ _ h => h) (Or.inl ⟨by rfl, ?_⟩) (by assumption) ?_
  · intro w' hSw
    obtain ⟨e1, e2, e4, e5⟩ := hSw
    go_simp
  try simp only [Act.put, List.setIfInBounds_toArray, List.set_cons_zero, List.set_cons_succ]
  refine wpAnyH_take (i := 8) (oi := ⟨some 38, _, _, _, _, _⟩) (v := .agg (sec s).toArray) rfl (by kernel_rfl) (by kernel_rfl) (by kernel_rfl) (fun _ _ _ h => h) (yieldsIf_load_mid (by rfl) _ _ rfl _ _ rfl _ _ (fun _ hw => hw.2.2.2) hu168 rfl hsec) (by assumption) ?_
  try simp only [Act.put, List.setIfInBounds_toArray, List.set_cons_zero, List.set_cons_succ]
  refine wpAnyH_take (i := 9) (oi := ⟨some 39, _, _, _, _, _⟩) (v := .agg (wcl (a, s)).toArray) rfl (by kernel_rfl) (by kernel_rfl) (by kernel_rfl) (fun _ _ _ h => h) (Or.inl ⟨by rfl, fun w' _ => exec_build rfl (by simp [Act.eval]) (built170 a (sec s) hsecl)⟩) (by assumption) ?_
  try simp only [Act.put, List.setIfInBounds_toArray, List.set_cons_zero, List.set_cons_succ]
  refine wpAnyH_ready (rs := [4, 10]) (by kernel_rfl) (by simp) ?_
  refine AllReadyH.cons (o := ⟨some 34, _, _, _, _, _⟩) rfl (fun K hK => ?_) (AllReadyH.cons (o := ⟨some 40, _, _, _, _, _⟩) rfl (fun K hK => ?_) AllReadyH.nil)
  · go_simp
    refine hK.out _ _ ⟨v1, v2, v3, v5⟩ (fun _ => ?_)
    clear hK K
    try simp only [Act.put, List.setIfInBounds_toArray, List.set_cons_zero, List.set_cons_succ]
    refine wpAnyH_ready (rs := [10]) (by kernel_rfl) (by simp) ?_
    refine AllReadyH.cons (o := ⟨some 40, _, _, _, _, _⟩) rfl (fun K hK => ?_) AllReadyH.nil
    rw [if_pos (by rfl)]
    refine wp_bs162 _ rfl (wcl (a, s)) hwl (by simp [Act.eval]) ?_
    try simp only [Act.put, List.setIfInBounds_toArray, List.set_cons_zero, List.set_cons_succ]
    refine hK.out _ _ ⟨x1, x2, x3, x5⟩ (fun _ => ?_)
    clear hK K
    refine wpAnyH_ready (rs := [11]) (by kernel_rfl) (by simp) ?_
    refine AllReadyH.cons (o := ⟨some 41, _, _, _, _, _⟩) rfl (fun K hK => ?_) AllReadyH.nil
    refine step_append_lies _ rfl (.tmp 34) (.tmp 40) 162 rfl base 170 i0 z0 257 264 und162 hi0 hz0 hsz0 hby0 hzs0 (by decide) _ d.cs.length _ rfl HW10.out.cache ⟨w2.drew.heap.size, 0, none⟩ 1 1 (wcl (a, s)) rfl (by rw [hwl]) HNEWS.out (wcl_one _) (by decide) (by unfold maxLen; omega) (by omega) hbw10 _ rfl ?_
    intro g cap2 w3 hown3 hgrow3 hat3 hlt3
    have hW3 := HW10.out.grow hgrow3 hown3
    have HW3 := Lib.hid hW3
    obtain ⟨y1, y2, y3, y4, _, y5, y6⟩ := hW3.cells
    obtain ⟨z1, z2, z3, z5⟩ := wst_store hW3 (.slice (some ⟨g, 0, none⟩) (d.cs.length + 1) cap2)
    clear hW3 hown3 hgrow3 hat3
    try simp only [Act.put, List.setIfInBounds_toArray, List.set_cons_zero, List.set_cons_succ]
    refine hK.out _ _ ⟨y1, y2, y3, y5⟩ (fun _ => ?_)
    clear hK K
    refine wpAnyH_take (i := 12) (oi := ⟨some 42, _, _, _, _, _⟩) (v := (.pointer (some ⟨B, 0, none⟩))) rfl (by kernel_rfl) (by kernel_rfl) (by kernel_rfl) (fun _ _ _ h => h) (Or.inl ⟨by rfl, ?_⟩) (by assumption) ?_
    · intro w' hSw
      obtain ⟨e1, e2, e4, e5⟩ := hSw
      go_simp
    try simp only [Act.put, List.setIfInBounds_toArray, List.set_cons_zero, List.set_cons_succ]
    refine wpAnyH_take (i := 13) (oi := ⟨some 43, _, _, _, _, _⟩) (v := (.pointer (some ⟨B, 1, none⟩))) rfl (by kernel_rfl) (by kernel_rfl) (by kernel_rfl) (fun _ _ _ h => h) (Or.inl ⟨by rfl, ?_⟩) (by assumption) ?_
    · intro w' hSw
      obtain ⟨e1, e2, e4, e5⟩ := hSw
      go_simp
    try simp only [Act.put, List.setIfInBounds_toArray, List.set_cons_zero, List.set_cons_succ]
    refine wpAnyH_ready (rs := [14]) (by kernel_rfl) (by simp) ?_
    refine AllReadyH.cons (o := ⟨none, _, _, _, _, _⟩) rfl (fun K hK => ?_) AllReadyH.nil
    go_simp
    refine hK.out _ _ ⟨z1, z2, z3, z5⟩ (fun _ => ?_)
    clear hK K
    try simp only [Act.put, List.setIfInBounds_toArray, List.set_cons_zero, List.set_cons_succ]
    refine wpAnyH_done (by kernel_rfl) ?_ _
    go_wp2
    go_ret
    exact ⟨rfl, _, HW3.out.done HD.out.ok hl ha⟩
  · rw [if_pos (by rfl)]
    refine wp_bs162 _ rfl (wcl (a, s)) hwl (by simp [Act.eval]) ?_
    try simp only [Act.put, List.setIfInBounds_toArray, List.set_cons_zero, List.set_cons_succ]
    refine hK.out _ _ ⟨x1, x2, x3, x5⟩ (fun _ => ?_)
    clear hK K
    refine wpAnyH_ready (rs := [4]) (by kernel_rfl) (by simp) ?_
    refine AllReadyH.cons (o := ⟨some 34, _, _, _, _, _⟩) rfl (fun K hK => ?_) AllReadyH.nil
    go_simp
    refine hK.out _ _ ⟨x1, x2, x3, x5⟩ (fun _ => ?_)
    clear hK K
    try simp only [Act.put, List.setIfInBounds_toArray, List.set_cons_zero, List.set_cons_succ]
    refine wpAnyH_ready (rs := [11]) (by kernel_rfl) (by simp) ?_
    refine AllReadyH.cons (o := ⟨some 41, _, _, _, _, _⟩) rfl (fun K hK => ?_) AllReadyH.nil
    refine step_append_lies _ rfl (.tmp 34) (.tmp 40) 162 rfl base 170 i0 z0 257 264 und162 hi0 hz0 hsz0 hby0 hzs0 (by decide) _ d.cs.length _ rfl HW10.out.cache ⟨w2.drew.heap.size, 0, none⟩ 1 1 (wcl (a, s)) rfl (by rw [hwl]) HNEWS.out (wcl_one _) (by decide) (by unfold maxLen; omega) (by omega) hbw10 _ rfl ?_
    intro g cap2 w3 hown3 hgrow3 hat3 hlt3
    have hW3 := HW10.out.grow hgrow3 hown3
    have HW3 := Lib.hid hW3
    obtain ⟨y1, y2, y3, y4, _, y5, y6⟩ := hW3.cells
    obtain ⟨z1, z2, z3, z5⟩ := wst_store hW3 (.slice (some ⟨g, 0, none⟩) (d.cs.length + 1) cap2)
    clear hW3 hown3 hgrow3 hat3
    try simp only [Act.put, List.setIfInBounds_toArray, List.set_cons_zero, List.set_cons_succ]
    refine hK.out _ _ ⟨y1, y2, y3, y5⟩ (fun _ => ?_)
    clear hK K
    refine wpAnyH_take (i := 12) (oi := ⟨some 42, _, _, _, _, _⟩) (v := (.pointer (some ⟨B, 0, none⟩))) rfl (by kernel_rfl) (by kernel_rfl) (by kernel_rfl) (fun _ _ _ h => h) (Or.inl ⟨by rfl, ?_⟩) (by assumption) ?_
    · intro w' hSw
      obtain ⟨e1, e2, e4, e5⟩ := hSw
      go_simp
    try simp only [Act.put, List.setIfInBounds_toArray, List.set_cons_zero, List.set_cons_succ]
    refine wpAnyH_take (i := 13) (oi := ⟨some 43, _, _, _, _, _⟩) (v := (.pointer (some ⟨B, 1, none⟩))) rfl (by kernel_rfl) (by kernel_rfl) (by kernel_rfl) (fun _ _ _ h => h) (Or.inl ⟨by rfl, ?_⟩) (by assumption) ?_
    · intro w' hSw
      obtain ⟨e1, e2, e4, e5⟩ := hSw
      go_simp
    try simp only [Act.put, List.setIfInBounds_toArray, List.set_cons_zero, List.set_cons_succ]
    refine wpAnyH_ready (rs := [14]) (by kernel_rfl) (by simp) ?_
    refine AllReadyH.cons (o := ⟨none, _, _, _, _, _⟩) rfl (fun K hK => ?_) AllReadyH.nil
    go_simp
    refine hK.out _ _ ⟨z1, z2, z3, z5⟩ (fun _ => ?_)
    clear hK K
    try simp only [Act.put, List.setIfInBounds_toArray, List.set_cons_zero, List.set_cons_succ]
    refine wpAnyH_done (by kernel_rfl) ?_ _
    go_wp2
    go_ret
    exact ⟨rfl, _, HW3.out.done HD.out.ok hl ha⟩
end Go.Proofs.Ytnplcfgjidolbaa
end
section
namespace Go.Proofs.Ytnplcfgjidolbaa
open Go.RowKit Go.Maps

/-- What a write leaves, the operation begun. -/
def Dsk.puts (d : Dsk) (a : Int) (s : List UInt8) : Dsk × Int := if a < 0 ∨ (d.ls.length : Int) ≤ a then (d, 2) else if s.length ≠ 256 then (d, 3) else ({ d with cs := d.cs ++ [(a.toNat, s)] }, 0)

set_option maxRecDepth 100000 in
theorem write1_range (w : World) (base B lb bm : Nat) (cv : Value) (d : Dsk) (pa pd pb : Nat) (a : Int) (h : Dk w base B lb bm cv d) (ha : a < 0 ∨ (d.ls.length : Int) ≤ a)
    (ca : w.heap[pa]? = some (.cells #[.int .i64 a] 3 (0, 0))) (cd : w.heap[pd]? = some (.cells #[.pointer (some ⟨B, 0, none⟩)] 92 (0, 0))) :
    Calls Try.prog 89 #[.pointer (some ⟨pa, 0, none⟩), .pointer (some ⟨pd, 0, none⟩), .pointer (some ⟨pb, 0, none⟩)] w fun e w' => e = .returned (.int .u16 2) ∧ Below w.heap.size w w' := by
  obtain ⟨c0, c1, c2, c3, c4, c5, c6, c7, fz⟩ := h.cells
  have p1 : w.cell? ⟨pa, 0, none⟩ = some (.int .i64 a) := (cell_of_row _ _ _ _ _ _ ca).trans rfl
  have p2 : w.cell? ⟨pd, 0, none⟩ = some (.pointer (some ⟨B, 0, none⟩)) := (cell_of_row _ _ _ _ _ _ cd).trans rfl
  clear h ca cd
  rcases Int.lt_or_le a 0 with h0 | h0
  · have g1 : decide (a < 0) = true := decide_eq_true h0
    go_enter Try.func89, Try.ntmps89
    go_wp2
    go_region
    all_goals go_wp2
    go_ret
    exact ⟨rfl, rfl, rfl, rfl, Nat.le_refl _, fun _ _ => rfl⟩
  · have g1 : decide (a < 0) = false := decide_eq_false (by omega)
    have g2 : decide ((d.ls.length : Int) ≤ a) = true := decide_eq_true (by omega)
    go_enter Try.func89, Try.ntmps89
    go_wp2
    go_region
    all_goals go_wp2
    go_ret
    exact ⟨rfl, rfl, rfl, rfl, Nat.le_refl _, fun _ _ => rfl⟩
set_option maxRecDepth 100000 in
theorem write1_len (w : World) (base B lb bm : Nat) (cv : Value) (d : Dsk) (pa pd pb : Nat) (a : Int) (ao : Option Addr) (n cap : Nat) (h : Dk w base B lb bm cv d) (ha : 0 ≤ a ∧ a < (d.ls.length : Int)) (hn : n ≠ 256)
    (ca : w.heap[pa]? = some (.cells #[.int .i64 a] 3 (0, 0))) (cd : w.heap[pd]? = some (.cells #[.pointer (some ⟨B, 0, none⟩)] 92 (0, 0))) (cb : w.heap[pb]? = some (.cells #[.slice ao n cap] 22 (0, 0))) :
    Calls Try.prog 89 #[.pointer (some ⟨pa, 0, none⟩), .pointer (some ⟨pd, 0, none⟩), .pointer (some ⟨pb, 0, none⟩)] w fun e w' => e = .returned (.int .u16 3) ∧ Below w.heap.size w w' := by
  obtain ⟨c0, c1, c2, c3, c4, c5, c6, c7, fz⟩ := h.cells
  have p1 : w.cell? ⟨pa, 0, none⟩ = some (.int .i64 a) := (cell_of_row _ _ _ _ _ _ ca).trans rfl
  have p2 : w.cell? ⟨pd, 0, none⟩ = some (.pointer (some ⟨B, 0, none⟩)) := (cell_of_row _ _ _ _ _ _ cd).trans rfl
  have p3 : w.cell? ⟨pb, 0, none⟩ = some (.slice ao n cap) := (cell_of_row _ _ _ _ _ _ cb).trans rfl
  have g1 : decide (a < 0) = false := decide_eq_false (by omega)
  have g2 : decide ((d.ls.length : Int) ≤ a) = false := decide_eq_false (by omega)
  have g3 : ((n : Int) != 256) = true := by simp; omega
  clear h ca cd cb
  go_enter Try.func89, Try.ntmps89
  go_wp2
  go_region
  all_goals go_wp2
  go_ret
  exact ⟨rfl, rfl, rfl, rfl, Nat.le_refl _, fun _ _ => rfl⟩

theorem write1_any (w : World) (base B lb bm : Nat) (cv : Value) (d : Dsk) (pa pd pb : Nat) (a : Int) (bv : Value) (s : List UInt8) (b0 : Nat) (h : Dk w base B lb bm cv d) (hs : w.ownsRow b0 5 1 bv s.length (s.map f8)) (hn : d.ls.length ≤ 16384) (hc : d.cs.length ≤ 100000000)
    (ca : w.heap[pa]? = some (.cells #[.int .i64 a] 3 (0, 0))) (cd : w.heap[pd]? = some (.cells #[.pointer (some ⟨B, 0, none⟩)] 92 (0, 0))) (cb : w.heap[pb]? = some (.cells #[bv] 22 (0, 0))) :
    Calls Try.prog 89 #[.pointer (some ⟨pa, 0, none⟩), .pointer (some ⟨pd, 0, none⟩), .pointer (some ⟨pb, 0, none⟩)] w fun e w' => e = .returned (.int .u16 (d.puts a s).2) ∧ ∃ cv', Dk w' base B lb bm cv' (d.puts a s).1 ∧ Dfr base w w' := by
  have hsz : base ≤ w.heap.size := by have := h.lo.1; have := heap_lt' h.top; omega
  unfold Dsk.puts
  by_cases ha : a < 0 ∨ (d.ls.length : Int) ≤ a
  · rw [if_pos ha]
    exact (write1_range w base B lb bm cv d pa pd pb a h ha ca cd).mono fun e w' ⟨h1, h2⟩ => ⟨h1, cv, h.below h2, Dfr.ofBelow h2 hsz⟩
  · rw [if_neg ha]
    by_cases hl : s.length = 256
    · rw [if_neg (by omega)]
      obtain ⟨m, rfl⟩ := Int.eq_ofNat_of_zero_le (show 0 ≤ a by omega)
      exact write1_ok w base B lb bm cv d pa pd pb m bv s b0 h hs hl (by omega) hn hc ca cd cb
    · rw [if_pos hl]
      obtain ⟨ao, cap, rfl⟩ := own_slice hs
      exact (write1_len w base B lb bm cv d pa pd pb a ao s.length cap h (by omega) hl ca cd cb).mono fun e w' ⟨h1, h2⟩ => ⟨h1, cv, h.below h2, Dfr.ofBelow h2 hsz⟩

theorem put_eq (d : Dsk) (a : Int) (s : List UInt8) : d.put a s = if (d.begins).2 = false then ((d.begins).1, 4) else ({ (d.begins).1 with wr := (d.begins).1.wr + 1 } : Dsk).puts a s := by
  unfold Dsk.put Dsk.puts
  rfl
end Go.Proofs.Ytnplcfgjidolbaa
end
section
namespace Go.Proofs.Ytnplcfgjidolbaa
open Go.RowKit Go.Maps

set_option maxRecDepth 100000 in
theorem op_89 (w : World) (base B lb bm : Nat) (cv : Value) (d : Dsk) (p0 p1 p2 : Nat) (R : Int → World → Prop) (h : Dk w base B lb bm cv d) (hcnt : 0 ≤ d.wr ∧ d.wr < 4611686018427387904) (htrip : d.trip ≤ 9223372036854775807)
    (hstop : (d.begins).2 = false → ∀ w', Dk w' base B lb bm cv (d.begins).1 → Dfr base w w' → R 4 w')
    (hgo : (d.begins).2 = true → ∀ w', Dk w' base B lb bm cv { (d.begins).1 with wr := (d.begins).1.wr + 1 } → Dfr base w w' → (∀ k, k ≠ B → w'.heap[k]? = w.heap[k]?) → Calls Try.prog 89 #[.pointer (some ⟨p0, 0, none⟩), .pointer (some ⟨p1, 0, none⟩), .pointer (some ⟨p2, 0, none⟩)] w' fun e w'' => ∃ k, e = .returned (.int .u16 k) ∧ R k w'') :
    Calls Try.prog 88 #[.pointer (some ⟨B, 0, none⟩), .pointer (some ⟨B, 6, none⟩), .func (.func 89) #[] #[.pointer (some ⟨p0, 0, none⟩), .pointer (some ⟨p1, 0, none⟩), .pointer (some ⟨p2, 0, none⟩)]] w fun e w' => ∃ k, e = .returned (.int .u16 k) ∧ R k w' := by
  obtain ⟨c0, c1, c2, c3, c4, c5, c6, c7, fz⟩ := h.cells
  have HD := Lib.hid h
  have HS := Lib.hid hstop
  have HG := Lib.hid hgo
  have hlo := h.lo.1
  have htop := Lib.hid h.top
  clear h hstop hgo
  cases hd : d.dark
  · rw [hd] at c3
    by_cases ht : d.trip = 0
    · have hbg : d.begins = ({ d with dark := true, trip := -1 }, false) := by unfold Dsk.begins; rw [hd]; simp [ht]
      rw [ht] at c4
      have HB := Lib.hid hbg
      clear hbg
      go_enter Try.func88, Try.ntmps88
      go_wp2
      go_ret
      refine ⟨4, rfl, HS.out (by rw [HB.out]) _ ?_ ?_⟩
      · rw [HB.out]
        exact HD.out.retop (dark := true) (trip := -1) (rd := d.rd) (wr := d.wr) (fl := d.fl) (by rw [heap_setCell_same _ _ _ _ _ _ (heap_setCell_same _ _ _ _ _ _ htop.out)]; rfl) (fun k hk => (heap_setCell_other _ _ _ _ hk).trans (heap_setCell_other _ _ _ _ hk))
      · exact Dfr.one htop.out (.inl rfl) hlo rfl rfl rfl (by simp) (fun k hk => (heap_setCell_other _ _ _ _ hk).trans (heap_setCell_other _ _ _ _ hk))
    · by_cases hp : 0 < d.trip
      · have hbg : d.begins = ({ d with trip := d.trip - 1 }, true) := by unfold Dsk.begins; rw [hd]; simp [ht, hp]
        have hne : (d.trip == 0) = false := by simp [ht]
        have hk : Dk ((w.setCell ⟨B, 4, none⟩ (.int .i64 (d.trip - 1))).setCell ⟨B, 6, none⟩ (.int .i64 (d.wr + 1))) base B lb bm cv { ({ d with trip := d.trip - 1 } : Dsk) with wr := d.wr + 1 } :=
          HD.out.retop (dark := d.dark) (trip := d.trip - 1) (rd := d.rd) (wr := d.wr + 1) (fl := d.fl) (by rw [heap_setCell_same _ _ _ _ _ _ (heap_setCell_same _ _ _ _ _ _ htop.out)]; rfl) (fun k hk => (heap_setCell_other _ _ _ _ hk).trans (heap_setCell_other _ _ _ _ hk))
        have HC := Lib.hid (HG.out (by rw [hbg]) ((w.setCell ⟨B, 4, none⟩ (.int .i64 (d.trip - 1))).setCell ⟨B, 6, none⟩ (.int .i64 (d.wr + 1))) (by rw [hbg]; exact hk) (Dfr.one htop.out (.inl rfl) hlo rfl rfl rfl (by simp) (fun k hk => (heap_setCell_other _ _ _ _ hk).trans (heap_setCell_other _ _ _ _ hk))) (fun k hk => (heap_setCell_other _ _ _ _ hk).trans (heap_setCell_other _ _ _ _ hk)))
        clear hbg hk
        go_enter Try.func88, Try.ntmps88
        go_wp2_with (go_at_call 89; refine Calls.mono HC.out ?_; rintro e w2 ⟨k, rfl, hr⟩; have HR := Lib.hid hr; clear hr)
        go_ret
        exact ⟨_, rfl, HR.out⟩
      · have hbg : d.begins = (d, true) := by unfold Dsk.begins; rw [if_neg (by rw [hd]; decide), if_neg ht, if_neg hp]
        have hne : (d.trip == 0) = false := by simp [ht]
        have hk : Dk (w.setCell ⟨B, 6, none⟩ (.int .i64 (d.wr + 1))) base B lb bm cv { d with wr := d.wr + 1 } :=
          HD.out.retop (dark := d.dark) (trip := d.trip) (rd := d.rd) (wr := d.wr + 1) (fl := d.fl) (by rw [heap_setCell_same _ _ _ _ _ _ htop.out]; rfl) (fun k hk => heap_setCell_other _ _ _ _ hk)
        have HC := Lib.hid (HG.out (by rw [hbg]) (w.setCell ⟨B, 6, none⟩ (.int .i64 (d.wr + 1))) (by rw [hbg]; exact hk) (Dfr.one htop.out (.inl rfl) hlo rfl rfl rfl (by simp) (fun k hk => heap_setCell_other _ _ _ _ hk)) (fun k hk => heap_setCell_other _ _ _ _ hk))
        clear hbg hk
        go_enter Try.func88, Try.ntmps88
        go_wp2_with (go_at_call 89; refine Calls.mono HC.out ?_; rintro e w2 ⟨k, rfl, hr⟩; have HR := Lib.hid hr; clear hr)
        go_ret
        exact ⟨_, rfl, HR.out⟩
  · have hbg : d.begins = (d, false) := by unfold Dsk.begins; rw [hd]; rfl
    rw [hd] at c3
    have HB := Lib.hid hbg
    clear hbg
    go_enter Try.func88, Try.ntmps88
    go_wp2
    go_ret
    exact ⟨4, rfl, HS.out (by rw [HB.out]) _ (by rw [HB.out]; exact HD.out) (Dfr.refl _ _)⟩

set_option maxRecDepth 100000 in
theorem op_92 (w : World) (base B lb bm : Nat) (cv : Value) (d : Dsk) (p0 p1 p2 : Nat) (R : Int → World → Prop) (h : Dk w base B lb bm cv d) (hcnt : 0 ≤ d.rd ∧ d.rd < 4611686018427387904) (htrip : d.trip ≤ 9223372036854775807)
    (hstop : (d.begins).2 = false → ∀ w', Dk w' base B lb bm cv (d.begins).1 → Dfr base w w' → R 4 w')
    (hgo : (d.begins).2 = true → ∀ w', Dk w' base B lb bm cv { (d.begins).1 with rd := (d.begins).1.rd + 1 } → Dfr base w w' → (∀ k, k ≠ B → w'.heap[k]? = w.heap[k]?) → Calls Try.prog 92 #[.pointer (some ⟨p0, 0, none⟩), .pointer (some ⟨p1, 0, none⟩), .pointer (some ⟨p2, 0, none⟩)] w' fun e w'' => ∃ k, e = .returned (.int .u16 k) ∧ R k w'') :
    Calls Try.prog 88 #[.pointer (some ⟨B, 0, none⟩), .pointer (some ⟨B, 5, none⟩), .func (.func 92) #[] #[.pointer (some ⟨p0, 0, none⟩), .pointer (some ⟨p1, 0, none⟩), .pointer (some ⟨p2, 0, none⟩)]] w fun e w' => ∃ k, e = .returned (.int .u16 k) ∧ R k w' := by
  obtain ⟨c0, c1, c2, c3, c4, c5, c6, c7, fz⟩ := h.cells
  have HD := Lib.hid h
  have HS := Lib.hid hstop
  have HG := Lib.hid hgo
  have hlo := h.lo.1
  have htop := Lib.hid h.top
  clear h hstop hgo
  cases hd : d.dark
  · rw [hd] at c3
    by_cases ht : d.trip = 0
    · have hbg : d.begins = ({ d with dark := true, trip := -1 }, false) := by unfold Dsk.begins; rw [hd]; simp [ht]
      rw [ht] at c4
      have HB := Lib.hid hbg
      clear hbg
      go_enter Try.func88, Try.ntmps88
      go_wp2
      go_ret
      refine ⟨4, rfl, HS.out (by rw [HB.out]) _ ?_ ?_⟩
      · rw [HB.out]
        exact HD.out.retop (dark := true) (trip := -1) (rd := d.rd) (wr := d.wr) (fl := d.fl) (by rw [heap_setCell_same _ _ _ _ _ _ (heap_setCell_same _ _ _ _ _ _ htop.out)]; rfl) (fun k hk => (heap_setCell_other _ _ _ _ hk).trans (heap_setCell_other _ _ _ _ hk))
      · exact Dfr.one htop.out (.inl rfl) hlo rfl rfl rfl (by simp) (fun k hk => (heap_setCell_other _ _ _ _ hk).trans (heap_setCell_other _ _ _ _ hk))
    · by_cases hp : 0 < d.trip
      · have hbg : d.begins = ({ d with trip := d.trip - 1 }, true) := by unfold Dsk.begins; rw [hd]; simp [ht, hp]
        have hne : (d.trip == 0) = false := by simp [ht]
        have hk : Dk ((w.setCell ⟨B, 4, none⟩ (.int .i64 (d.trip - 1))).setCell ⟨B, 5, none⟩ (.int .i64 (d.rd + 1))) base B lb bm cv { ({ d with trip := d.trip - 1 } : Dsk) with rd := d.rd + 1 } :=
          HD.out.retop (dark := d.dark) (trip := d.trip - 1) (rd := d.rd + 1) (wr := d.wr) (fl := d.fl) (by rw [heap_setCell_same _ _ _ _ _ _ (heap_setCell_same _ _ _ _ _ _ htop.out)]; rfl) (fun k hk => (heap_setCell_other _ _ _ _ hk).trans (heap_setCell_other _ _ _ _ hk))
        have HC := Lib.hid (HG.out (by rw [hbg]) ((w.setCell ⟨B, 4, none⟩ (.int .i64 (d.trip - 1))).setCell ⟨B, 5, none⟩ (.int .i64 (d.rd + 1))) (by rw [hbg]; exact hk) (Dfr.one htop.out (.inl rfl) hlo rfl rfl rfl (by simp) (fun k hk => (heap_setCell_other _ _ _ _ hk).trans (heap_setCell_other _ _ _ _ hk))) (fun k hk => (heap_setCell_other _ _ _ _ hk).trans (heap_setCell_other _ _ _ _ hk)))
        clear hbg hk
        go_enter Try.func88, Try.ntmps88
        go_wp2_with (go_at_call 92; refine Calls.mono HC.out ?_; rintro e w2 ⟨k, rfl, hr⟩; have HR := Lib.hid hr; clear hr)
        go_ret
        exact ⟨_, rfl, HR.out⟩
      · have hbg : d.begins = (d, true) := by unfold Dsk.begins; rw [if_neg (by rw [hd]; decide), if_neg ht, if_neg hp]
        have hne : (d.trip == 0) = false := by simp [ht]
        have hk : Dk (w.setCell ⟨B, 5, none⟩ (.int .i64 (d.rd + 1))) base B lb bm cv { d with rd := d.rd + 1 } :=
          HD.out.retop (dark := d.dark) (trip := d.trip) (rd := d.rd + 1) (wr := d.wr) (fl := d.fl) (by rw [heap_setCell_same _ _ _ _ _ _ htop.out]; rfl) (fun k hk => heap_setCell_other _ _ _ _ hk)
        have HC := Lib.hid (HG.out (by rw [hbg]) (w.setCell ⟨B, 5, none⟩ (.int .i64 (d.rd + 1))) (by rw [hbg]; exact hk) (Dfr.one htop.out (.inl rfl) hlo rfl rfl rfl (by simp) (fun k hk => heap_setCell_other _ _ _ _ hk)) (fun k hk => heap_setCell_other _ _ _ _ hk))
        clear hbg hk
        go_enter Try.func88, Try.ntmps88
        go_wp2_with (go_at_call 92; refine Calls.mono HC.out ?_; rintro e w2 ⟨k, rfl, hr⟩; have HR := Lib.hid hr; clear hr)
        go_ret
        exact ⟨_, rfl, HR.out⟩
  · have hbg : d.begins = (d, false) := by unfold Dsk.begins; rw [hd]; rfl
    rw [hd] at c3
    have HB := Lib.hid hbg
    clear hbg
    go_enter Try.func88, Try.ntmps88
    go_wp2
    go_ret
    exact ⟨4, rfl, HS.out (by rw [HB.out]) _ (by rw [HB.out]; exact HD.out) (Dfr.refl _ _)⟩

set_option maxRecDepth 100000 in
theorem op_93 (w : World) (base B lb bm : Nat) (cv : Value) (d : Dsk) (p0 : Nat) (R : Int → World → Prop) (h : Dk w base B lb bm cv d) (hcnt : 0 ≤ d.fl ∧ d.fl < 4611686018427387904) (htrip : d.trip ≤ 9223372036854775807)
    (hstop : (d.begins).2 = false → ∀ w', Dk w' base B lb bm cv (d.begins).1 → Dfr base w w' → R 4 w')
    (hgo : (d.begins).2 = true → ∀ w', Dk w' base B lb bm cv { (d.begins).1 with fl := (d.begins).1.fl + 1 } → Dfr base w w' → (∀ k, k ≠ B → w'.heap[k]? = w.heap[k]?) → Calls Try.prog 93 #[.pointer (some ⟨p0, 0, none⟩)] w' fun e w'' => ∃ k, e = .returned (.int .u16 k) ∧ R k w'') :
    Calls Try.prog 88 #[.pointer (some ⟨B, 0, none⟩), .pointer (some ⟨B, 7, none⟩), .func (.func 93) #[] #[.pointer (some ⟨p0, 0, none⟩)]] w fun e w' => ∃ k, e = .returned (.int .u16 k) ∧ R k w' := by
  obtain ⟨c0, c1, c2, c3, c4, c5, c6, c7, fz⟩ := h.cells
  have HD := Lib.hid h
  have HS := Lib.hid hstop
  have HG := Lib.hid hgo
  have hlo := h.lo.1
  have htop := Lib.hid h.top
  clear h hstop hgo
  cases hd : d.dark
  · rw [hd] at c3
    by_cases ht : d.trip = 0
    · have hbg : d.begins = ({ d with dark := true, trip := -1 }, false) := by unfold Dsk.begins; rw [hd]; simp [ht]
      rw [ht] at c4
      have HB := Lib.hid hbg
      clear hbg
      go_enter Try.func88, Try.ntmps88
      go_wp2
      go_ret
      refine ⟨4, rfl, HS.out (by rw [HB.out]) _ ?_ ?_⟩
      · rw [HB.out]
        exact HD.out.retop (dark := true) (trip := -1) (rd := d.rd) (wr := d.wr) (fl := d.fl) (by rw [heap_setCell_same _ _ _ _ _ _ (heap_setCell_same _ _ _ _ _ _ htop.out)]; rfl) (fun k hk => (heap_setCell_other _ _ _ _ hk).trans (heap_setCell_other _ _ _ _ hk))
      · exact Dfr.one htop.out (.inl rfl) hlo rfl rfl rfl (by simp) (fun k hk => (heap_setCell_other _ _ _ _ hk).trans (heap_setCell_other _ _ _ _ hk))
    · by_cases hp : 0 < d.trip
      · have hbg : d.begins = ({ d with trip := d.trip - 1 }, true) := by unfold Dsk.begins; rw [hd]; simp [ht, hp]
        have hne : (d.trip == 0) = false := by simp [ht]
        have hk : Dk ((w.setCell ⟨B, 4, none⟩ (.int .i64 (d.trip - 1))).setCell ⟨B, 7, none⟩ (.int .i64 (d.fl + 1))) base B lb bm cv { ({ d with trip := d.trip - 1 } : Dsk) with fl := d.fl + 1 } :=
          HD.out.retop (dark := d.dark) (trip := d.trip - 1) (rd := d.rd) (wr := d.wr) (fl := d.fl + 1) (by rw [heap_setCell_same _ _ _ _ _ _ (heap_setCell_same _ _ _ _ _ _ htop.out)]; rfl) (fun k hk => (heap_setCell_other _ _ _ _ hk).trans (heap_setCell_other _ _ _ _ hk))
        have HC := Lib.hid (HG.out (by rw [hbg]) ((w.setCell ⟨B, 4, none⟩ (.int .i64 (d.trip - 1))).setCell ⟨B, 7, none⟩ (.int .i64 (d.fl + 1))) (by rw [hbg]; exact hk) (Dfr.one htop.out (.inl rfl) hlo rfl rfl rfl (by simp) (fun k hk => (heap_setCell_other _ _ _ _ hk).trans (heap_setCell_other _ _ _ _ hk))) (fun k hk => (heap_setCell_other _ _ _ _ hk).trans (heap_setCell_other _ _ _ _ hk)))
        clear hbg hk
        go_enter Try.func88, Try.ntmps88
        go_wp2_with (go_at_call 93; refine Calls.mono HC.out ?_; rintro e w2 ⟨k, rfl, hr⟩; have HR := Lib.hid hr; clear hr)
        go_ret
        exact ⟨_, rfl, HR.out⟩
      · have hbg : d.begins = (d, true) := by unfold Dsk.begins; rw [if_neg (by rw [hd]; decide), if_neg ht, if_neg hp]
        have hne : (d.trip == 0) = false := by simp [ht]
        have hk : Dk (w.setCell ⟨B, 7, none⟩ (.int .i64 (d.fl + 1))) base B lb bm cv { d with fl := d.fl + 1 } :=
          HD.out.retop (dark := d.dark) (trip := d.trip) (rd := d.rd) (wr := d.wr) (fl := d.fl + 1) (by rw [heap_setCell_same _ _ _ _ _ _ htop.out]; rfl) (fun k hk => heap_setCell_other _ _ _ _ hk)
        have HC := Lib.hid (HG.out (by rw [hbg]) (w.setCell ⟨B, 7, none⟩ (.int .i64 (d.fl + 1))) (by rw [hbg]; exact hk) (Dfr.one htop.out (.inl rfl) hlo rfl rfl rfl (by simp) (fun k hk => heap_setCell_other _ _ _ _ hk)) (fun k hk => heap_setCell_other _ _ _ _ hk))
        clear hbg hk
        go_enter Try.func88, Try.ntmps88
        go_wp2_with (go_at_call 93; refine Calls.mono HC.out ?_; rintro e w2 ⟨k, rfl, hr⟩; have HR := Lib.hid hr; clear hr)
        go_ret
        exact ⟨_, rfl, HR.out⟩
  · have hbg : d.begins = (d, false) := by unfold Dsk.begins; rw [hd]; rfl
    rw [hd] at c3
    have HB := Lib.hid hbg
    clear hbg
    go_enter Try.func88, Try.ntmps88
    go_wp2
    go_ret
    exact ⟨4, rfl, HS.out (by rw [HB.out]) _ (by rw [HB.out]; exact HD.out) (Dfr.refl _ _)⟩
end Go.Proofs.Ytnplcfgjidolbaa
end
