import Derived.Test.YtepjpdhmjchakaaGreatDoorP7
import Derived.LoopN
/- What is told of a step, in memory. -/
namespace Go.Proofs.YtepjpdhmjchakaaGreatDoor
open Go.RowKit
set_option linter.unusedVariables false

theorem Anew.back {w w1 : World} {r r' : Option Nat} (h : Anew w1 r r') (hs : w.heap.size ≤ w1.heap.size) : Anew w r r' := fun k hk => (h k hk).imp id (fun h => Nat.le_trans hs h)
theorem und155 : Tryz.prog.underlying 224 = some (.array 3 223) := by kernel_rfl
theorem size154 : (Tryz.prog.info? 223).map (fun i => i.size) = some 5 := by kernel_rfl
def bkA : Array Value := #[.int .u64 2, .int .i64 2, .int .i64 (-63), .int .i64 64, .int .i64 7, .int .u64 6, .int .i64 3, .int .i64 (-255), .int .i64 256, .int .i64 9, .int .u64 14, .int .i64 4, .int .i64 (-2047), .int .i64 2048, .int .i64 12]
theorem bk_at (W : World) :
    (Instr.index 224 (.agg bkA) (.int .i64 0)).run Tryz.prog W = .ok (.agg #[.int .u64 2, .int .i64 2, .int .i64 (-63), .int .i64 64, .int .i64 7]) W ∧
    (Instr.index 224 (.agg bkA) (.int .i64 1)).run Tryz.prog W = .ok (.agg #[.int .u64 6, .int .i64 3, .int .i64 (-255), .int .i64 256, .int .i64 9]) W ∧
    (Instr.index 224 (.agg bkA) (.int .i64 2)).run Tryz.prog W = .ok (.agg #[.int .u64 14, .int .i64 4, .int .i64 (-2047), .int .i64 2048, .int .i64 12]) W := by
  obtain ⟨i, hi, hs⟩ := Option.map_eq_some_iff.1 size154
  refine ⟨?_, ?_, ?_⟩ <;> simp [Instr.index, run_underlying und155, asIntOf, sizeOf, typeInfo, hi, hs, bkA, part, Result.andThen]
set_option maxHeartbeats 2000000 in
set_option maxRecDepth 100000 in
theorem time_one {w : World} {P B : Nat} {r : Option Nat} {L : List Bool} {f t : Int} {v step0 n : Nat} {win : Option (Nat × Nat)} (h : Am w P B r L f t v step0 n win) (step : Nat) (d : Int) (hd : wrap64 (IntKind.u64.wrap ((step : Int) - step0)) = d) (hs : step < 18446744073709551616) (hL : L.length < 1099511000000) (hn : n = 1) :
    Calls Tryz.prog 70 #[.pointer (some ⟨P, 0, none⟩), .int .u64 (step : Int)] w fun e w' => e = .returned (.tuple #[]) ∧ ∃ r', Am w' P B r' (L ++ Bt.vb step) f t v step n win ∧ Ga P B r w w' ∧ Anew w r r' := by
  have gn : ((n : Int) == 1) = true := by simp; omega
  clear hn
  obtain ⟨c0, -, -, -, c4, c5, -, -, -, fz⟩ := h.cells
  have hoth : ∀ k, k ≠ P → (w.setCell ⟨P, 4, none⟩ (.int .u64 (step : Int))).heap[k]? = w.heap[k]? := fun k hk => heap_setCell_other _ _ _ _ hk
  have ha1 := h.retop (w' := w.setCell ⟨P, 4, none⟩ (.int .u64 (step : Int))) (f' := f) (t' := t) (v' := v) (step' := step) (n' := n) (win' := win) (by rw [heap_setCell_same _ _ _ _ _ _ h.top]; rfl) hoth
  have hg1 : Ga P B r w (w.setCell ⟨P, 4, none⟩ (.int .u64 (step : Int))) := Ga.set hoth rfl rfl rfl (by simp)
  obtain ⟨d0, -, -, -, -, d5, -, -, -, -⟩ := ha1.cells
  have HA1 := Lib.hid ha1
  have HG1 := Lib.hid hg1
  clear h ha1 hg1 hoth
  go_enter Tryz.func70, Tryz.ntmps70
  go_wp2_with (go_at_call 87; refine (varint_any _ B r L step HA1.out.wr (by omega) hs).mono ?_; rintro e w1 ⟨rfl, r1, hw1, hgr1, hn1⟩; have HA2 := Lib.hid (HA1.out.put hw1 hgr1); have HG2 := Lib.hid (HG1.out.trans (Ga.ofGro hgr1) (Anew.refl _ _)); have HN2 := Lib.hid (hn1.back HG1.out.size); clear hw1 hgr1 hn1)
  (try simp only [Exit.inBlock, Exit.then])
  refine bodyPost_ret (results_none rfl _ _ _) rfl ?_
  exact ⟨rfl, r1, HA2.out, HG2.out, HN2.out⟩
set_option maxHeartbeats 2000000 in
set_option maxRecDepth 100000 in
theorem time_zero {w : World} {P B : Nat} {r : Option Nat} {L : List Bool} {f t : Int} {v step0 n : Nat} {win : Option (Nat × Nat)} (h : Am w P B r L f t v step0 n win) (step : Nat) (d : Int) (hd : wrap64 (IntKind.u64.wrap ((step : Int) - step0)) = d) (hs : step < 18446744073709551616) (hL : L.length < 1099511000000) (hn : n ≠ 1) (h0 : d = 0) :
    Calls Tryz.prog 70 #[.pointer (some ⟨P, 0, none⟩), .int .u64 (step : Int)] w fun e w' => e = .returned (.tuple #[]) ∧ ∃ r', Am w' P B r' (L ++ [false]) f t v step n win ∧ Ga P B r w w' ∧ Anew w r r' := by
  have gn : ((n : Int) == 1) = false := by simp; omega
  have gd : (d == 0) = true := by simp [h0]
  clear hn h0
  obtain ⟨c0, -, -, -, c4, c5, -, -, -, fz⟩ := h.cells
  have hoth : ∀ k, k ≠ P → (w.setCell ⟨P, 4, none⟩ (.int .u64 (step : Int))).heap[k]? = w.heap[k]? := fun k hk => heap_setCell_other _ _ _ _ hk
  have ha1 := h.retop (w' := w.setCell ⟨P, 4, none⟩ (.int .u64 (step : Int))) (f' := f) (t' := t) (v' := v) (step' := step) (n' := n) (win' := win) (by rw [heap_setCell_same _ _ _ _ _ _ h.top]; rfl) hoth
  have hg1 : Ga P B r w (w.setCell ⟨P, 4, none⟩ (.int .u64 (step : Int))) := Ga.set hoth rfl rfl rfl (by simp)
  obtain ⟨d0, -, -, -, -, d5, -, -, -, -⟩ := ha1.cells
  have HA1 := Lib.hid ha1
  have HG1 := Lib.hid hg1
  clear h ha1 hg1 hoth
  go_enter Tryz.func70, Tryz.ntmps70
  go_wp2_with (go_at_call 88; refine (bit_any _ B r L false HA1.out.wr (by omega)).mono ?_; rintro e w1 ⟨rfl, r1, hw1, hgr1, hn1⟩; have HA2 := Lib.hid (HA1.out.put hw1 hgr1); have HG2 := Lib.hid (HG1.out.trans (Ga.ofGro hgr1) (Anew.refl _ _)); have HN2 := Lib.hid (hn1.back HG1.out.size); clear hw1 hgr1 hn1)
  (try simp only [Exit.inBlock, Exit.then])
  refine bodyPost_ret (results_none rfl _ _ _) rfl ?_
  exact ⟨rfl, r1, HA2.out, HG2.out, HN2.out⟩
theorem bits_lit (w : World) (B : Nat) (r : Option Nat) (L : List Bool) (z k : Int) (v n : Nat) (hz : z = (v : Int)) (hk : k = (n : Int)) (h : Wr w B r L) (hL : L.length + n < 1099511627776) (hv : v < 18446744073709551616) (hn : n ≤ 64) :
    Calls Tryz.prog 69 #[.pointer (some ⟨B, 0, none⟩), .int .u64 z, .int .i64 k] w fun e w' => e = .returned (.int .u16 0) ∧ ∃ r', Wr w' B r' (L ++ Bt.nb v n) ∧ Gro B r w w' ∧ Anew w r r' := by
  subst hz hk
  exact bits_any w B r L v n h hL hv hn
theorem Am.lts {w : World} {P B : Nat} {r : Option Nat} {L : List Bool} {f t : Int} {v step n : Nat} {win : Option (Nat × Nat)} (h : Am w P B r L f t v step n win) : P < w.heap.size ∧ B < w.heap.size ∧ ∀ k, r = some k → k < w.heap.size := by
  obtain ⟨⟨u, hB, hown, hr⟩, _⟩ := h.wr
  exact ⟨heap_lt h.top, heap_lt hB, fun k hk => (hown.lt k (hr.trans hk)).2⟩
theorem bucket_cells {W : World} {q : Nat} {x0 x1 x2 x3 x4 : Value} (h : W.heap[q]? = some (.cells #[x0, x1, x2, x3, x4] 223 (0, 0))) :
    W.cell? ⟨q, 0, none⟩ = some x0 ∧ W.cell? ⟨q, 1, none⟩ = some x1 ∧ W.cell? ⟨q, 2, none⟩ = some x2 ∧ W.cell? ⟨q, 4, none⟩ = some x4 :=
  ⟨(cell_of_row _ _ _ _ _ _ h).trans rfl, (cell_of_row _ _ _ _ _ _ h).trans rfl, (cell_of_row _ _ _ _ _ _ h).trans rfl, (cell_of_row _ _ _ _ _ _ h).trans rfl⟩
set_option maxHeartbeats 2000000 in
set_option maxRecDepth 100000 in
theorem time_b1 {w : World} {P B : Nat} {r : Option Nat} {L : List Bool} {f t : Int} {v step0 n : Nat} {win : Option (Nat × Nat)} (h : Am w P B r L f t v step0 n win) (step : Nat) (d : Int) (hd : wrap64 (IntKind.u64.wrap ((step : Int) - step0)) = d) (hs : step < 18446744073709551616) (hL : L.length < 1099511000000) (hn : n ≠ 1) (h0 : d ≠ 0) (hb : -63 ≤ d ∧ d ≤ 64) :
    Calls Tryz.prog 70 #[.pointer (some ⟨P, 0, none⟩), .int .u64 (step : Int)] w fun e w' => e = .returned (.tuple #[]) ∧ ∃ r', Am w' P B r' (L ++ (Bt.nb 2 2 ++ Bt.nb (d + 63).toNat 7)) f t v step n win ∧ Ga P B r w w' ∧ Anew w r r' := by
  have gn : ((n : Int) == 1) = false := by simp; omega
  have gd : (d == 0) = false := by simp [h0]
  have bl : decide (-63 ≤ d) = true := decide_eq_true hb.1
  have bm : decide (d ≤ 64) = true := decide_eq_true hb.2
  obtain ⟨m, hm⟩ : ∃ m : Nat, (d + 63).toNat = m := ⟨_, rfl⟩
  have hm1 : IntKind.u64.wrap (IntKind.i64.wrap (d + 63)) = (m : Int) := by rw [IntKind.wrap_u64, IntKind.wrap_i64]; omega
  have hm2 : m < 2 ^ 7 := by omega
  rw [hm]
  have HM2 := Lib.hid hm2
  clear hm2 hm hb h0
  obtain ⟨c0, -, -, -, c4, c5, -, -, -, fz⟩ := h.cells
  have hoth : ∀ k, k ≠ P → (w.setCell ⟨P, 4, none⟩ (.int .u64 (step : Int))).heap[k]? = w.heap[k]? := fun k hk => heap_setCell_other _ _ _ _ hk
  have ha1 := h.retop (w' := w.setCell ⟨P, 4, none⟩ (.int .u64 (step : Int))) (f' := f) (t' := t) (v' := v) (step' := step) (n' := n) (win' := win) (by rw [heap_setCell_same _ _ _ _ _ _ h.top]; rfl) hoth
  have hg1 : Ga P B r w (w.setCell ⟨P, 4, none⟩ (.int .u64 (step : Int))) := Ga.set hoth rfl rfl rfl (by simp)
  obtain ⟨d0, -, -, -, -, d5, -, -, -, -⟩ := ha1.cells
  have HA1 := Lib.hid ha1
  have HG1 := Lib.hid hg1
  clear h ha1 hg1 hoth
  have hx0 := fun W => (bk_at W).1
  have hx1 := fun W => (bk_at W).2.1
  have hx2 := fun W => (bk_at W).2.2
  unfold bkA at hx0 hx1 hx2
  go_enter Tryz.func70, Tryz.ntmps70
  go_wp2_with (go_at_call 89; refine (buckets_any _).mono ?_; rintro e w1 ⟨rfl, hb1⟩; have HA2 := Lib.hid (HA1.out.below hb1); have HG2 := Lib.hid (HG1.out.trans (Ga.ofBelow hb1) (Anew.refl _ _)); have HS1 := Lib.hid (Nat.le_trans HG1.out.size hb1.size); clear hb1)
  refine wp_loop_rounds 4 ?_
  rw [rounds_succ]
  go_wp2
  have hbw : Below w1.heap.size w1 (w1.alloc (.cells #[.int .u64 2, .int .i64 2, .int .i64 (-63), .int .i64 64, .int .i64 7] 223)) := ((Below.refl _ _).alloc (Nat.le_refl _) _)
  have hbk : (w1.alloc (.cells #[.int .u64 2, .int .i64 2, .int .i64 (-63), .int .i64 64, .int .i64 7] 223)).heap[w1.heap.size]? = some (.cells #[.int .u64 2, .int .i64 2, .int .i64 (-63), .int .i64 64, .int .i64 7] 223 (0, 0)) := by
    have e := heap_alloc_new w1 (.cells #[.int .u64 2, .int .i64 2, .int .i64 (-63), .int .i64 64, .int .i64 7] 223)
    simpa using e
  obtain ⟨k0, k1, k2, k4⟩ := bucket_cells hbk
  have HA3 := Lib.hid (HA2.out.below hbw)
  have HG3 := Lib.hid (HG2.out.trans (Ga.ofBelow hbw) (Anew.refl _ _))
  have HBK := Lib.hid hbk
  have HLT := Lib.hid HA2.out.lts
  have hsz := hbw.size
  obtain ⟨p0, -, -, -, -, -, -, -, -, -⟩ := HA3.out.cells
  clear hbw hbk
  go_region_held3 (fun w' => w'.cell? ⟨P, 0, none⟩ = some (.pointer (some ⟨B, 0, none⟩)) ∧ w'.cell? ⟨w1.heap.size, 0, none⟩ = some (.int .u64 2) ∧ w'.cell? ⟨w1.heap.size, 1, none⟩ = some (.int .i64 2)) (first | assumption | exact ⟨by assumption, by assumption, by assumption⟩) (first | (go_at_call 69; refine (bits_lit _ B r L _ _ 2 2 rfl rfl (HA3.out.below (drew_b _)).wr (by omega) (by decide) (by decide)).mono ?_; rintro e w4 ⟨rfl, r4, hw4, hgr4, hn4⟩; have ha4 := (HA3.out.below (drew_b _)).put hw4 hgr4; have hbk4 := (hgr4.block (w1.heap.size) (heap_lt HBK.out) (by have := HLT.out.2.1; omega) (fun e => by have := HLT.out.2.2 _ e.symm; omega)).trans HBK.out; obtain ⟨p0, -, -, -, -, -, -, -, -, -⟩ := ha4.cells; obtain ⟨k0, k1, k2, k4⟩ := bucket_cells hbk4; have HA4 := Lib.hid ha4; have HG4 := Lib.hid ((HG3.out.trans (Ga.ofBelow (drew_b _)) (Anew.refl _ _)).trans (Ga.ofGro hgr4) (Anew.refl _ _)); have HN4 := Lib.hid (hn4.back (Nat.le_trans HS1.out (show w1.heap.size ≤ (w1.alloc (.cells #[.int .u64 2, .int .i64 2, .int .i64 (-63), .int .i64 64, .int .i64 7] 223)).heap.size from hsz))); have HBK4 := Lib.hid hbk4; have hn4' : Anew (w1.alloc (.cells #[.int .u64 2, .int .i64 2, .int .i64 (-63), .int .i64 64, .int .i64 7] 223)) r r4 := hn4; clear hw4 ha4 hgr4 hn4 hbk4))
  go_wp2_with fail
  go_region_held3 (fun w' => w'.cell? ⟨P, 0, none⟩ = some (.pointer (some ⟨B, 0, none⟩)) ∧ w'.cell? ⟨w1.heap.size, 2, none⟩ = some (.int .i64 (-63)) ∧ w'.cell? ⟨w1.heap.size, 4, none⟩ = some (.int .i64 7)) (first | assumption | exact ⟨by assumption, by assumption, by assumption⟩) (first | (go_at_call 69; refine (bits_lit _ B r4 _ _ _ m 7 rfl rfl (HA4.out.below (drew_b _)).wr (by simp [Bt.nb_len]; omega) (Nat.lt_of_lt_of_le HM2.out (by decide)) (by decide)).mono ?_; rintro e w5 ⟨rfl, r5, hw5, hgr5, hn5⟩; have ha5 := (HA4.out.below (drew_b _)).put hw5 hgr5; have hlt4 := HA4.out.lts; have hbk5 := (hgr5.block (w1.heap.size) (heap_lt HBK4.out) (by have := HLT.out.2.1; omega) (fun e => by have := HN4.out _ e.symm; have hl := HLT.out.2.2; rcases hn4' _ e.symm with h6 | h6; exact (by have := hl _ h6; omega); have := heap_lt HBK.out; omega)).trans HBK4.out; obtain ⟨p0, -, -, -, -, -, -, -, -, -⟩ := ha5.cells; obtain ⟨k0, k1, k2, k4⟩ := bucket_cells hbk5; have HA5 := Lib.hid ha5; have HG5 := Lib.hid ((HG4.out.trans (Ga.ofBelow (drew_b _)) HN4.out).trans (Ga.ofGro hgr5) HN4.out); have HN5 := Lib.hid (HN4.out.trans hn5 HG4.out.size); clear hw5 ha5 hgr5 hn5 hbk5 hlt4))
  go_wp2
  (try simp only [Exit.inBlock, Exit.then])
  refine bodyPost_ret (results_none rfl _ _ _) rfl ?_
  have e5 := HA5.out
  rw [List.append_assoc] at e5
  exact ⟨rfl, r5, e5, HG5.out, HN5.out⟩
set_option maxHeartbeats 2000000 in
set_option maxRecDepth 100000 in
theorem time_b2n {w : World} {P B : Nat} {r : Option Nat} {L : List Bool} {f t : Int} {v step0 n : Nat} {win : Option (Nat × Nat)} (h : Am w P B r L f t v step0 n win) (step : Nat) (d : Int) (hd : wrap64 (IntKind.u64.wrap ((step : Int) - step0)) = d) (hs : step < 18446744073709551616) (hL : L.length < 1099511000000) (hn : n ≠ 1) (h0 : d ≠ 0) (hsd : d < -63) (hb : -255 ≤ d ∧ d ≤ 256) :
    Calls Tryz.prog 70 #[.pointer (some ⟨P, 0, none⟩), .int .u64 (step : Int)] w fun e w' => e = .returned (.tuple #[]) ∧ ∃ r', Am w' P B r' (L ++ (Bt.nb 6 3 ++ Bt.nb (d + 255).toNat 9)) f t v step n win ∧ Ga P B r w w' ∧ Anew w r r' := by
  have gn : ((n : Int) == 1) = false := by simp; omega
  have gd : (d == 0) = false := by simp [h0]
  have bl : decide (-255 ≤ d) = true := decide_eq_true hb.1
  have bm : decide (d ≤ 256) = true := decide_eq_true hb.2
  obtain ⟨m, hm⟩ : ∃ m : Nat, (d + 255).toNat = m := ⟨_, rfl⟩
  have hm1 : IntKind.u64.wrap (IntKind.i64.wrap (d + 255)) = (m : Int) := by rw [IntKind.wrap_u64, IntKind.wrap_i64]; omega
  have hm2 : m < 2 ^ 9 := by omega
  have f0a : decide (-63 ≤ d) = false := decide_eq_false (by omega)
  rw [hm]
  have HM2 := Lib.hid hm2
  clear hm2 hm hb hsd h0
  obtain ⟨c0, -, -, -, c4, c5, -, -, -, fz⟩ := h.cells
  have hoth : ∀ k, k ≠ P → (w.setCell ⟨P, 4, none⟩ (.int .u64 (step : Int))).heap[k]? = w.heap[k]? := fun k hk => heap_setCell_other _ _ _ _ hk
  have ha1 := h.retop (w' := w.setCell ⟨P, 4, none⟩ (.int .u64 (step : Int))) (f' := f) (t' := t) (v' := v) (step' := step) (n' := n) (win' := win) (by rw [heap_setCell_same _ _ _ _ _ _ h.top]; rfl) hoth
  have hg1 : Ga P B r w (w.setCell ⟨P, 4, none⟩ (.int .u64 (step : Int))) := Ga.set hoth rfl rfl rfl (by simp)
  obtain ⟨d0, -, -, -, -, d5, -, -, -, -⟩ := ha1.cells
  have HA1 := Lib.hid ha1
  have HG1 := Lib.hid hg1
  clear h ha1 hg1 hoth
  have hx0 := fun W => (bk_at W).1
  have hx1 := fun W => (bk_at W).2.1
  have hx2 := fun W => (bk_at W).2.2
  unfold bkA at hx0 hx1 hx2
  go_enter Tryz.func70, Tryz.ntmps70
  go_wp2_with (go_at_call 89; refine (buckets_any _).mono ?_; rintro e w1 ⟨rfl, hb1⟩; have HA2 := Lib.hid (HA1.out.below hb1); have HG2 := Lib.hid (HG1.out.trans (Ga.ofBelow hb1) (Anew.refl _ _)); have HS1 := Lib.hid (Nat.le_trans HG1.out.size hb1.size); clear hb1)
  refine wp_loop_rounds 4 ?_
  rw [rounds_succ]
  go_wp2
  rw [rounds_succ]
  go_wp2
  have hbw : Below w1.heap.size w1 ((w1.alloc (.cells #[.int .u64 2, .int .i64 2, .int .i64 (-63), .int .i64 64, .int .i64 7] 223)).alloc (.cells #[.int .u64 6, .int .i64 3, .int .i64 (-255), .int .i64 256, .int .i64 9] 223)) := (((Below.refl _ _).alloc (Nat.le_refl _) _).alloc (by simp) _)
  have hbk : ((w1.alloc (.cells #[.int .u64 2, .int .i64 2, .int .i64 (-63), .int .i64 64, .int .i64 7] 223)).alloc (.cells #[.int .u64 6, .int .i64 3, .int .i64 (-255), .int .i64 256, .int .i64 9] 223)).heap[w1.heap.size + 1]? = some (.cells #[.int .u64 6, .int .i64 3, .int .i64 (-255), .int .i64 256, .int .i64 9] 223 (0, 0)) := by
    have e := heap_alloc_new (w1.alloc (.cells #[.int .u64 2, .int .i64 2, .int .i64 (-63), .int .i64 64, .int .i64 7] 223)) (.cells #[.int .u64 6, .int .i64 3, .int .i64 (-255), .int .i64 256, .int .i64 9] 223)
    simpa using e
  obtain ⟨k0, k1, k2, k4⟩ := bucket_cells hbk
  have HA3 := Lib.hid (HA2.out.below hbw)
  have HG3 := Lib.hid (HG2.out.trans (Ga.ofBelow hbw) (Anew.refl _ _))
  have HBK := Lib.hid hbk
  have HLT := Lib.hid HA2.out.lts
  have hsz := hbw.size
  obtain ⟨p0, -, -, -, -, -, -, -, -, -⟩ := HA3.out.cells
  clear hbw hbk
  go_region_held3 (fun w' => w'.cell? ⟨P, 0, none⟩ = some (.pointer (some ⟨B, 0, none⟩)) ∧ w'.cell? ⟨w1.heap.size + 1, 0, none⟩ = some (.int .u64 6) ∧ w'.cell? ⟨w1.heap.size + 1, 1, none⟩ = some (.int .i64 3)) (first | assumption | exact ⟨by assumption, by assumption, by assumption⟩) (first | (go_at_call 69; refine (bits_lit _ B r L _ _ 6 3 rfl rfl (HA3.out.below (drew_b _)).wr (by omega) (by decide) (by decide)).mono ?_; rintro e w4 ⟨rfl, r4, hw4, hgr4, hn4⟩; have ha4 := (HA3.out.below (drew_b _)).put hw4 hgr4; have hbk4 := (hgr4.block (w1.heap.size + 1) (heap_lt HBK.out) (by have := HLT.out.2.1; omega) (fun e => by have := HLT.out.2.2 _ e.symm; omega)).trans HBK.out; obtain ⟨p0, -, -, -, -, -, -, -, -, -⟩ := ha4.cells; obtain ⟨k0, k1, k2, k4⟩ := bucket_cells hbk4; have HA4 := Lib.hid ha4; have HG4 := Lib.hid ((HG3.out.trans (Ga.ofBelow (drew_b _)) (Anew.refl _ _)).trans (Ga.ofGro hgr4) (Anew.refl _ _)); have HN4 := Lib.hid (hn4.back (Nat.le_trans HS1.out (show w1.heap.size ≤ ((w1.alloc (.cells #[.int .u64 2, .int .i64 2, .int .i64 (-63), .int .i64 64, .int .i64 7] 223)).alloc (.cells #[.int .u64 6, .int .i64 3, .int .i64 (-255), .int .i64 256, .int .i64 9] 223)).heap.size from hsz))); have HBK4 := Lib.hid hbk4; have hn4' : Anew ((w1.alloc (.cells #[.int .u64 2, .int .i64 2, .int .i64 (-63), .int .i64 64, .int .i64 7] 223)).alloc (.cells #[.int .u64 6, .int .i64 3, .int .i64 (-255), .int .i64 256, .int .i64 9] 223)) r r4 := hn4; clear hw4 ha4 hgr4 hn4 hbk4))
  go_wp2_with fail
  go_region_held3 (fun w' => w'.cell? ⟨P, 0, none⟩ = some (.pointer (some ⟨B, 0, none⟩)) ∧ w'.cell? ⟨w1.heap.size + 1, 2, none⟩ = some (.int .i64 (-255)) ∧ w'.cell? ⟨w1.heap.size + 1, 4, none⟩ = some (.int .i64 9)) (first | assumption | exact ⟨by assumption, by assumption, by assumption⟩) (first | (go_at_call 69; refine (bits_lit _ B r4 _ _ _ m 9 rfl rfl (HA4.out.below (drew_b _)).wr (by simp [Bt.nb_len]; omega) (Nat.lt_of_lt_of_le HM2.out (by decide)) (by decide)).mono ?_; rintro e w5 ⟨rfl, r5, hw5, hgr5, hn5⟩; have ha5 := (HA4.out.below (drew_b _)).put hw5 hgr5; have hlt4 := HA4.out.lts; have hbk5 := (hgr5.block (w1.heap.size + 1) (heap_lt HBK4.out) (by have := HLT.out.2.1; omega) (fun e => by have := HN4.out _ e.symm; have hl := HLT.out.2.2; rcases hn4' _ e.symm with h6 | h6; exact (by have := hl _ h6; omega); have := heap_lt HBK.out; omega)).trans HBK4.out; obtain ⟨p0, -, -, -, -, -, -, -, -, -⟩ := ha5.cells; obtain ⟨k0, k1, k2, k4⟩ := bucket_cells hbk5; have HA5 := Lib.hid ha5; have HG5 := Lib.hid ((HG4.out.trans (Ga.ofBelow (drew_b _)) HN4.out).trans (Ga.ofGro hgr5) HN4.out); have HN5 := Lib.hid (HN4.out.trans hn5 HG4.out.size); clear hw5 ha5 hgr5 hn5 hbk5 hlt4))
  go_wp2
  (try simp only [Exit.inBlock, Exit.then])
  refine bodyPost_ret (results_none rfl _ _ _) rfl ?_
  have e5 := HA5.out
  rw [List.append_assoc] at e5
  exact ⟨rfl, r5, e5, HG5.out, HN5.out⟩
set_option maxHeartbeats 2000000 in
set_option maxRecDepth 100000 in
theorem time_b2p {w : World} {P B : Nat} {r : Option Nat} {L : List Bool} {f t : Int} {v step0 n : Nat} {win : Option (Nat × Nat)} (h : Am w P B r L f t v step0 n win) (step : Nat) (d : Int) (hd : wrap64 (IntKind.u64.wrap ((step : Int) - step0)) = d) (hs : step < 18446744073709551616) (hL : L.length < 1099511000000) (hn : n ≠ 1) (h0 : d ≠ 0) (hsd : 64 < d) (hb : -255 ≤ d ∧ d ≤ 256) :
    Calls Tryz.prog 70 #[.pointer (some ⟨P, 0, none⟩), .int .u64 (step : Int)] w fun e w' => e = .returned (.tuple #[]) ∧ ∃ r', Am w' P B r' (L ++ (Bt.nb 6 3 ++ Bt.nb (d + 255).toNat 9)) f t v step n win ∧ Ga P B r w w' ∧ Anew w r r' := by
  have gn : ((n : Int) == 1) = false := by simp; omega
  have gd : (d == 0) = false := by simp [h0]
  have bl : decide (-255 ≤ d) = true := decide_eq_true hb.1
  have bm : decide (d ≤ 256) = true := decide_eq_true hb.2
  obtain ⟨m, hm⟩ : ∃ m : Nat, (d + 255).toNat = m := ⟨_, rfl⟩
  have hm1 : IntKind.u64.wrap (IntKind.i64.wrap (d + 255)) = (m : Int) := by rw [IntKind.wrap_u64, IntKind.wrap_i64]; omega
  have hm2 : m < 2 ^ 9 := by omega
  have f0a : decide (-63 ≤ d) = true := decide_eq_true (by omega)
  have f0b : decide (d ≤ 64) = false := decide_eq_false (by omega)
  rw [hm]
  have HM2 := Lib.hid hm2
  clear hm2 hm hb hsd h0
  obtain ⟨c0, -, -, -, c4, c5, -, -, -, fz⟩ := h.cells
  have hoth : ∀ k, k ≠ P → (w.setCell ⟨P, 4, none⟩ (.int .u64 (step : Int))).heap[k]? = w.heap[k]? := fun k hk => heap_setCell_other _ _ _ _ hk
  have ha1 := h.retop (w' := w.setCell ⟨P, 4, none⟩ (.int .u64 (step : Int))) (f' := f) (t' := t) (v' := v) (step' := step) (n' := n) (win' := win) (by rw [heap_setCell_same _ _ _ _ _ _ h.top]; rfl) hoth
  have hg1 : Ga P B r w (w.setCell ⟨P, 4, none⟩ (.int .u64 (step : Int))) := Ga.set hoth rfl rfl rfl (by simp)
  obtain ⟨d0, -, -, -, -, d5, -, -, -, -⟩ := ha1.cells
  have HA1 := Lib.hid ha1
  have HG1 := Lib.hid hg1
  clear h ha1 hg1 hoth
  have hx0 := fun W => (bk_at W).1
  have hx1 := fun W => (bk_at W).2.1
  have hx2 := fun W => (bk_at W).2.2
  unfold bkA at hx0 hx1 hx2
  go_enter Tryz.func70, Tryz.ntmps70
  go_wp2_with (go_at_call 89; refine (buckets_any _).mono ?_; rintro e w1 ⟨rfl, hb1⟩; have HA2 := Lib.hid (HA1.out.below hb1); have HG2 := Lib.hid (HG1.out.trans (Ga.ofBelow hb1) (Anew.refl _ _)); have HS1 := Lib.hid (Nat.le_trans HG1.out.size hb1.size); clear hb1)
  refine wp_loop_rounds 4 ?_
  rw [rounds_succ]
  go_wp2
  rw [rounds_succ]
  go_wp2
  have hbw : Below w1.heap.size w1 ((w1.alloc (.cells #[.int .u64 2, .int .i64 2, .int .i64 (-63), .int .i64 64, .int .i64 7] 223)).alloc (.cells #[.int .u64 6, .int .i64 3, .int .i64 (-255), .int .i64 256, .int .i64 9] 223)) := (((Below.refl _ _).alloc (Nat.le_refl _) _).alloc (by simp) _)
  have hbk : ((w1.alloc (.cells #[.int .u64 2, .int .i64 2, .int .i64 (-63), .int .i64 64, .int .i64 7] 223)).alloc (.cells #[.int .u64 6, .int .i64 3, .int .i64 (-255), .int .i64 256, .int .i64 9] 223)).heap[w1.heap.size + 1]? = some (.cells #[.int .u64 6, .int .i64 3, .int .i64 (-255), .int .i64 256, .int .i64 9] 223 (0, 0)) := by
    have e := heap_alloc_new (w1.alloc (.cells #[.int .u64 2, .int .i64 2, .int .i64 (-63), .int .i64 64, .int .i64 7] 223)) (.cells #[.int .u64 6, .int .i64 3, .int .i64 (-255), .int .i64 256, .int .i64 9] 223)
    simpa using e
  obtain ⟨k0, k1, k2, k4⟩ := bucket_cells hbk
  have HA3 := Lib.hid (HA2.out.below hbw)
  have HG3 := Lib.hid (HG2.out.trans (Ga.ofBelow hbw) (Anew.refl _ _))
  have HBK := Lib.hid hbk
  have HLT := Lib.hid HA2.out.lts
  have hsz := hbw.size
  obtain ⟨p0, -, -, -, -, -, -, -, -, -⟩ := HA3.out.cells
  clear hbw hbk
  go_region_held3 (fun w' => w'.cell? ⟨P, 0, none⟩ = some (.pointer (some ⟨B, 0, none⟩)) ∧ w'.cell? ⟨w1.heap.size + 1, 0, none⟩ = some (.int .u64 6) ∧ w'.cell? ⟨w1.heap.size + 1, 1, none⟩ = some (.int .i64 3)) (first | assumption | exact ⟨by assumption, by assumption, by assumption⟩) (first | (go_at_call 69; refine (bits_lit _ B r L _ _ 6 3 rfl rfl (HA3.out.below (drew_b _)).wr (by omega) (by decide) (by decide)).mono ?_; rintro e w4 ⟨rfl, r4, hw4, hgr4, hn4⟩; have ha4 := (HA3.out.below (drew_b _)).put hw4 hgr4; have hbk4 := (hgr4.block (w1.heap.size + 1) (heap_lt HBK.out) (by have := HLT.out.2.1; omega) (fun e => by have := HLT.out.2.2 _ e.symm; omega)).trans HBK.out; obtain ⟨p0, -, -, -, -, -, -, -, -, -⟩ := ha4.cells; obtain ⟨k0, k1, k2, k4⟩ := bucket_cells hbk4; have HA4 := Lib.hid ha4; have HG4 := Lib.hid ((HG3.out.trans (Ga.ofBelow (drew_b _)) (Anew.refl _ _)).trans (Ga.ofGro hgr4) (Anew.refl _ _)); have HN4 := Lib.hid (hn4.back (Nat.le_trans HS1.out (show w1.heap.size ≤ ((w1.alloc (.cells #[.int .u64 2, .int .i64 2, .int .i64 (-63), .int .i64 64, .int .i64 7] 223)).alloc (.cells #[.int .u64 6, .int .i64 3, .int .i64 (-255), .int .i64 256, .int .i64 9] 223)).heap.size from hsz))); have HBK4 := Lib.hid hbk4; have hn4' : Anew ((w1.alloc (.cells #[.int .u64 2, .int .i64 2, .int .i64 (-63), .int .i64 64, .int .i64 7] 223)).alloc (.cells #[.int .u64 6, .int .i64 3, .int .i64 (-255), .int .i64 256, .int .i64 9] 223)) r r4 := hn4; clear hw4 ha4 hgr4 hn4 hbk4))
  go_wp2_with fail
  go_region_held3 (fun w' => w'.cell? ⟨P, 0, none⟩ = some (.pointer (some ⟨B, 0, none⟩)) ∧ w'.cell? ⟨w1.heap.size + 1, 2, none⟩ = some (.int .i64 (-255)) ∧ w'.cell? ⟨w1.heap.size + 1, 4, none⟩ = some (.int .i64 9)) (first | assumption | exact ⟨by assumption, by assumption, by assumption⟩) (first | (go_at_call 69; refine (bits_lit _ B r4 _ _ _ m 9 rfl rfl (HA4.out.below (drew_b _)).wr (by simp [Bt.nb_len]; omega) (Nat.lt_of_lt_of_le HM2.out (by decide)) (by decide)).mono ?_; rintro e w5 ⟨rfl, r5, hw5, hgr5, hn5⟩; have ha5 := (HA4.out.below (drew_b _)).put hw5 hgr5; have hlt4 := HA4.out.lts; have hbk5 := (hgr5.block (w1.heap.size + 1) (heap_lt HBK4.out) (by have := HLT.out.2.1; omega) (fun e => by have := HN4.out _ e.symm; have hl := HLT.out.2.2; rcases hn4' _ e.symm with h6 | h6; exact (by have := hl _ h6; omega); have := heap_lt HBK.out; omega)).trans HBK4.out; obtain ⟨p0, -, -, -, -, -, -, -, -, -⟩ := ha5.cells; obtain ⟨k0, k1, k2, k4⟩ := bucket_cells hbk5; have HA5 := Lib.hid ha5; have HG5 := Lib.hid ((HG4.out.trans (Ga.ofBelow (drew_b _)) HN4.out).trans (Ga.ofGro hgr5) HN4.out); have HN5 := Lib.hid (HN4.out.trans hn5 HG4.out.size); clear hw5 ha5 hgr5 hn5 hbk5 hlt4))
  go_wp2
  (try simp only [Exit.inBlock, Exit.then])
  refine bodyPost_ret (results_none rfl _ _ _) rfl ?_
  have e5 := HA5.out
  rw [List.append_assoc] at e5
  exact ⟨rfl, r5, e5, HG5.out, HN5.out⟩
set_option maxHeartbeats 2000000 in
set_option maxRecDepth 100000 in
theorem time_b3n {w : World} {P B : Nat} {r : Option Nat} {L : List Bool} {f t : Int} {v step0 n : Nat} {win : Option (Nat × Nat)} (h : Am w P B r L f t v step0 n win) (step : Nat) (d : Int) (hd : wrap64 (IntKind.u64.wrap ((step : Int) - step0)) = d) (hs : step < 18446744073709551616) (hL : L.length < 1099511000000) (hn : n ≠ 1) (h0 : d ≠ 0) (hsd : d < -255) (hb : -2047 ≤ d ∧ d ≤ 2048) :
    Calls Tryz.prog 70 #[.pointer (some ⟨P, 0, none⟩), .int .u64 (step : Int)] w fun e w' => e = .returned (.tuple #[]) ∧ ∃ r', Am w' P B r' (L ++ (Bt.nb 14 4 ++ Bt.nb (d + 2047).toNat 12)) f t v step n win ∧ Ga P B r w w' ∧ Anew w r r' := by
  have gn : ((n : Int) == 1) = false := by simp; omega
  have gd : (d == 0) = false := by simp [h0]
  have bl : decide (-2047 ≤ d) = true := decide_eq_true hb.1
  have bm : decide (d ≤ 2048) = true := decide_eq_true hb.2
  obtain ⟨m, hm⟩ : ∃ m : Nat, (d + 2047).toNat = m := ⟨_, rfl⟩
  have hm1 : IntKind.u64.wrap (IntKind.i64.wrap (d + 2047)) = (m : Int) := by rw [IntKind.wrap_u64, IntKind.wrap_i64]; omega
  have hm2 : m < 2 ^ 12 := by omega
  have f0a : decide (-63 ≤ d) = false := decide_eq_false (by omega)
  have f1a : decide (-255 ≤ d) = false := decide_eq_false (by omega)
  rw [hm]
  have HM2 := Lib.hid hm2
  clear hm2 hm hb hsd h0
  obtain ⟨c0, -, -, -, c4, c5, -, -, -, fz⟩ := h.cells
  have hoth : ∀ k, k ≠ P → (w.setCell ⟨P, 4, none⟩ (.int .u64 (step : Int))).heap[k]? = w.heap[k]? := fun k hk => heap_setCell_other _ _ _ _ hk
  have ha1 := h.retop (w' := w.setCell ⟨P, 4, none⟩ (.int .u64 (step : Int))) (f' := f) (t' := t) (v' := v) (step' := step) (n' := n) (win' := win) (by rw [heap_setCell_same _ _ _ _ _ _ h.top]; rfl) hoth
  have hg1 : Ga P B r w (w.setCell ⟨P, 4, none⟩ (.int .u64 (step : Int))) := Ga.set hoth rfl rfl rfl (by simp)
  obtain ⟨d0, -, -, -, -, d5, -, -, -, -⟩ := ha1.cells
  have HA1 := Lib.hid ha1
  have HG1 := Lib.hid hg1
  clear h ha1 hg1 hoth
  have hx0 := fun W => (bk_at W).1
  have hx1 := fun W => (bk_at W).2.1
  have hx2 := fun W => (bk_at W).2.2
  unfold bkA at hx0 hx1 hx2
  go_enter Tryz.func70, Tryz.ntmps70
  go_wp2_with (go_at_call 89; refine (buckets_any _).mono ?_; rintro e w1 ⟨rfl, hb1⟩; have HA2 := Lib.hid (HA1.out.below hb1); have HG2 := Lib.hid (HG1.out.trans (Ga.ofBelow hb1) (Anew.refl _ _)); have HS1 := Lib.hid (Nat.le_trans HG1.out.size hb1.size); clear hb1)
  refine wp_loop_rounds 4 ?_
  rw [rounds_succ]
  go_wp2
  rw [rounds_succ]
  go_wp2
  rw [rounds_succ]
  go_wp2
  have hbw : Below w1.heap.size w1 (((w1.alloc (.cells #[.int .u64 2, .int .i64 2, .int .i64 (-63), .int .i64 64, .int .i64 7] 223)).alloc (.cells #[.int .u64 6, .int .i64 3, .int .i64 (-255), .int .i64 256, .int .i64 9] 223)).alloc (.cells #[.int .u64 14, .int .i64 4, .int .i64 (-2047), .int .i64 2048, .int .i64 12] 223)) := ((((Below.refl _ _).alloc (Nat.le_refl _) _).alloc (by simp) _).alloc (by simp; omega) _)
  have hbk : (((w1.alloc (.cells #[.int .u64 2, .int .i64 2, .int .i64 (-63), .int .i64 64, .int .i64 7] 223)).alloc (.cells #[.int .u64 6, .int .i64 3, .int .i64 (-255), .int .i64 256, .int .i64 9] 223)).alloc (.cells #[.int .u64 14, .int .i64 4, .int .i64 (-2047), .int .i64 2048, .int .i64 12] 223)).heap[w1.heap.size + 1 + 1]? = some (.cells #[.int .u64 14, .int .i64 4, .int .i64 (-2047), .int .i64 2048, .int .i64 12] 223 (0, 0)) := by
    have e := heap_alloc_new ((w1.alloc (.cells #[.int .u64 2, .int .i64 2, .int .i64 (-63), .int .i64 64, .int .i64 7] 223)).alloc (.cells #[.int .u64 6, .int .i64 3, .int .i64 (-255), .int .i64 256, .int .i64 9] 223)) (.cells #[.int .u64 14, .int .i64 4, .int .i64 (-2047), .int .i64 2048, .int .i64 12] 223)
    simpa using e
  obtain ⟨k0, k1, k2, k4⟩ := bucket_cells hbk
  have HA3 := Lib.hid (HA2.out.below hbw)
  have HG3 := Lib.hid (HG2.out.trans (Ga.ofBelow hbw) (Anew.refl _ _))
  have HBK := Lib.hid hbk
  have HLT := Lib.hid HA2.out.lts
  have hsz := hbw.size
  obtain ⟨p0, -, -, -, -, -, -, -, -, -⟩ := HA3.out.cells
  clear hbw hbk
  go_region_held3 (fun w' => w'.cell? ⟨P, 0, none⟩ = some (.pointer (some ⟨B, 0, none⟩)) ∧ w'.cell? ⟨w1.heap.size + 1 + 1, 0, none⟩ = some (.int .u64 14) ∧ w'.cell? ⟨w1.heap.size + 1 + 1, 1, none⟩ = some (.int .i64 4)) (first | assumption | exact ⟨by assumption, by assumption, by assumption⟩) (first | (go_at_call 69; refine (bits_lit _ B r L _ _ 14 4 rfl rfl (HA3.out.below (drew_b _)).wr (by omega) (by decide) (by decide)).mono ?_; rintro e w4 ⟨rfl, r4, hw4, hgr4, hn4⟩; have ha4 := (HA3.out.below (drew_b _)).put hw4 hgr4; have hbk4 := (hgr4.block (w1.heap.size + 1 + 1) (heap_lt HBK.out) (by have := HLT.out.2.1; omega) (fun e => by have := HLT.out.2.2 _ e.symm; omega)).trans HBK.out; obtain ⟨p0, -, -, -, -, -, -, -, -, -⟩ := ha4.cells; obtain ⟨k0, k1, k2, k4⟩ := bucket_cells hbk4; have HA4 := Lib.hid ha4; have HG4 := Lib.hid ((HG3.out.trans (Ga.ofBelow (drew_b _)) (Anew.refl _ _)).trans (Ga.ofGro hgr4) (Anew.refl _ _)); have HN4 := Lib.hid (hn4.back (Nat.le_trans HS1.out (show w1.heap.size ≤ (((w1.alloc (.cells #[.int .u64 2, .int .i64 2, .int .i64 (-63), .int .i64 64, .int .i64 7] 223)).alloc (.cells #[.int .u64 6, .int .i64 3, .int .i64 (-255), .int .i64 256, .int .i64 9] 223)).alloc (.cells #[.int .u64 14, .int .i64 4, .int .i64 (-2047), .int .i64 2048, .int .i64 12] 223)).heap.size from hsz))); have HBK4 := Lib.hid hbk4; have hn4' : Anew (((w1.alloc (.cells #[.int .u64 2, .int .i64 2, .int .i64 (-63), .int .i64 64, .int .i64 7] 223)).alloc (.cells #[.int .u64 6, .int .i64 3, .int .i64 (-255), .int .i64 256, .int .i64 9] 223)).alloc (.cells #[.int .u64 14, .int .i64 4, .int .i64 (-2047), .int .i64 2048, .int .i64 12] 223)) r r4 := hn4; clear hw4 ha4 hgr4 hn4 hbk4))
  go_wp2_with fail
  go_region_held3 (fun w' => w'.cell? ⟨P, 0, none⟩ = some (.pointer (some ⟨B, 0, none⟩)) ∧ w'.cell? ⟨w1.heap.size + 1 + 1, 2, none⟩ = some (.int .i64 (-2047)) ∧ w'.cell? ⟨w1.heap.size + 1 + 1, 4, none⟩ = some (.int .i64 12)) (first | assumption | exact ⟨by assumption, by assumption, by assumption⟩) (first | (go_at_call 69; refine (bits_lit _ B r4 _ _ _ m 12 rfl rfl (HA4.out.below (drew_b _)).wr (by simp [Bt.nb_len]; omega) (Nat.lt_of_lt_of_le HM2.out (by decide)) (by decide)).mono ?_; rintro e w5 ⟨rfl, r5, hw5, hgr5, hn5⟩; have ha5 := (HA4.out.below (drew_b _)).put hw5 hgr5; have hlt4 := HA4.out.lts; have hbk5 := (hgr5.block (w1.heap.size + 1 + 1) (heap_lt HBK4.out) (by have := HLT.out.2.1; omega) (fun e => by have := HN4.out _ e.symm; have hl := HLT.out.2.2; rcases hn4' _ e.symm with h6 | h6; exact (by have := hl _ h6; omega); have := heap_lt HBK.out; omega)).trans HBK4.out; obtain ⟨p0, -, -, -, -, -, -, -, -, -⟩ := ha5.cells; obtain ⟨k0, k1, k2, k4⟩ := bucket_cells hbk5; have HA5 := Lib.hid ha5; have HG5 := Lib.hid ((HG4.out.trans (Ga.ofBelow (drew_b _)) HN4.out).trans (Ga.ofGro hgr5) HN4.out); have HN5 := Lib.hid (HN4.out.trans hn5 HG4.out.size); clear hw5 ha5 hgr5 hn5 hbk5 hlt4))
  go_wp2
  (try simp only [Exit.inBlock, Exit.then])
  refine bodyPost_ret (results_none rfl _ _ _) rfl ?_
  have e5 := HA5.out
  rw [List.append_assoc] at e5
  exact ⟨rfl, r5, e5, HG5.out, HN5.out⟩
set_option maxHeartbeats 2000000 in
set_option maxRecDepth 100000 in
theorem time_b3p {w : World} {P B : Nat} {r : Option Nat} {L : List Bool} {f t : Int} {v step0 n : Nat} {win : Option (Nat × Nat)} (h : Am w P B r L f t v step0 n win) (step : Nat) (d : Int) (hd : wrap64 (IntKind.u64.wrap ((step : Int) - step0)) = d) (hs : step < 18446744073709551616) (hL : L.length < 1099511000000) (hn : n ≠ 1) (h0 : d ≠ 0) (hsd : 256 < d) (hb : -2047 ≤ d ∧ d ≤ 2048) :
    Calls Tryz.prog 70 #[.pointer (some ⟨P, 0, none⟩), .int .u64 (step : Int)] w fun e w' => e = .returned (.tuple #[]) ∧ ∃ r', Am w' P B r' (L ++ (Bt.nb 14 4 ++ Bt.nb (d + 2047).toNat 12)) f t v step n win ∧ Ga P B r w w' ∧ Anew w r r' := by
  have gn : ((n : Int) == 1) = false := by simp; omega
  have gd : (d == 0) = false := by simp [h0]
  have bl : decide (-2047 ≤ d) = true := decide_eq_true hb.1
  have bm : decide (d ≤ 2048) = true := decide_eq_true hb.2
  obtain ⟨m, hm⟩ : ∃ m : Nat, (d + 2047).toNat = m := ⟨_, rfl⟩
  have hm1 : IntKind.u64.wrap (IntKind.i64.wrap (d + 2047)) = (m : Int) := by rw [IntKind.wrap_u64, IntKind.wrap_i64]; omega
  have hm2 : m < 2 ^ 12 := by omega
  have f0a : decide (-63 ≤ d) = true := decide_eq_true (by omega)
  have f0b : decide (d ≤ 64) = false := decide_eq_false (by omega)
  have f1a : decide (-255 ≤ d) = true := decide_eq_true (by omega)
  have f1b : decide (d ≤ 256) = false := decide_eq_false (by omega)
  rw [hm]
  have HM2 := Lib.hid hm2
  clear hm2 hm hb hsd h0
  obtain ⟨c0, -, -, -, c4, c5, -, -, -, fz⟩ := h.cells
  have hoth : ∀ k, k ≠ P → (w.setCell ⟨P, 4, none⟩ (.int .u64 (step : Int))).heap[k]? = w.heap[k]? := fun k hk => heap_setCell_other _ _ _ _ hk
  have ha1 := h.retop (w' := w.setCell ⟨P, 4, none⟩ (.int .u64 (step : Int))) (f' := f) (t' := t) (v' := v) (step' := step) (n' := n) (win' := win) (by rw [heap_setCell_same _ _ _ _ _ _ h.top]; rfl) hoth
  have hg1 : Ga P B r w (w.setCell ⟨P, 4, none⟩ (.int .u64 (step : Int))) := Ga.set hoth rfl rfl rfl (by simp)
  obtain ⟨d0, -, -, -, -, d5, -, -, -, -⟩ := ha1.cells
  have HA1 := Lib.hid ha1
  have HG1 := Lib.hid hg1
  clear h ha1 hg1 hoth
  have hx0 := fun W => (bk_at W).1
  have hx1 := fun W => (bk_at W).2.1
  have hx2 := fun W => (bk_at W).2.2
  unfold bkA at hx0 hx1 hx2
  go_enter Tryz.func70, Tryz.ntmps70
  go_wp2_with (go_at_call 89; refine (buckets_any _).mono ?_; rintro e w1 ⟨rfl, hb1⟩; have HA2 := Lib.hid (HA1.out.below hb1); have HG2 := Lib.hid (HG1.out.trans (Ga.ofBelow hb1) (Anew.refl _ _)); have HS1 := Lib.hid (Nat.le_trans HG1.out.size hb1.size); clear hb1)
  refine wp_loop_rounds 4 ?_
  rw [rounds_succ]
  go_wp2
  rw [rounds_succ]
  go_wp2
  rw [rounds_succ]
  go_wp2
  have hbw : Below w1.heap.size w1 (((w1.alloc (.cells #[.int .u64 2, .int .i64 2, .int .i64 (-63), .int .i64 64, .int .i64 7] 223)).alloc (.cells #[.int .u64 6, .int .i64 3, .int .i64 (-255), .int .i64 256, .int .i64 9] 223)).alloc (.cells #[.int .u64 14, .int .i64 4, .int .i64 (-2047), .int .i64 2048, .int .i64 12] 223)) := ((((Below.refl _ _).alloc (Nat.le_refl _) _).alloc (by simp) _).alloc (by simp; omega) _)
  have hbk : (((w1.alloc (.cells #[.int .u64 2, .int .i64 2, .int .i64 (-63), .int .i64 64, .int .i64 7] 223)).alloc (.cells #[.int .u64 6, .int .i64 3, .int .i64 (-255), .int .i64 256, .int .i64 9] 223)).alloc (.cells #[.int .u64 14, .int .i64 4, .int .i64 (-2047), .int .i64 2048, .int .i64 12] 223)).heap[w1.heap.size + 1 + 1]? = some (.cells #[.int .u64 14, .int .i64 4, .int .i64 (-2047), .int .i64 2048, .int .i64 12] 223 (0, 0)) := by
    have e := heap_alloc_new ((w1.alloc (.cells #[.int .u64 2, .int .i64 2, .int .i64 (-63), .int .i64 64, .int .i64 7] 223)).alloc (.cells #[.int .u64 6, .int .i64 3, .int .i64 (-255), .int .i64 256, .int .i64 9] 223)) (.cells #[.int .u64 14, .int .i64 4, .int .i64 (-2047), .int .i64 2048, .int .i64 12] 223)
    simpa using e
  obtain ⟨k0, k1, k2, k4⟩ := bucket_cells hbk
  have HA3 := Lib.hid (HA2.out.below hbw)
  have HG3 := Lib.hid (HG2.out.trans (Ga.ofBelow hbw) (Anew.refl _ _))
  have HBK := Lib.hid hbk
  have HLT := Lib.hid HA2.out.lts
  have hsz := hbw.size
  obtain ⟨p0, -, -, -, -, -, -, -, -, -⟩ := HA3.out.cells
  clear hbw hbk
  go_region_held3 (fun w' => w'.cell? ⟨P, 0, none⟩ = some (.pointer (some ⟨B, 0, none⟩)) ∧ w'.cell? ⟨w1.heap.size + 1 + 1, 0, none⟩ = some (.int .u64 14) ∧ w'.cell? ⟨w1.heap.size + 1 + 1, 1, none⟩ = some (.int .i64 4)) (first | assumption | exact ⟨by assumption, by assumption, by assumption⟩) (first | (go_at_call 69; refine (bits_lit _ B r L _ _ 14 4 rfl rfl (HA3.out.below (drew_b _)).wr (by omega) (by decide) (by decide)).mono ?_; rintro e w4 ⟨rfl, r4, hw4, hgr4, hn4⟩; have ha4 := (HA3.out.below (drew_b _)).put hw4 hgr4; have hbk4 := (hgr4.block (w1.heap.size + 1 + 1) (heap_lt HBK.out) (by have := HLT.out.2.1; omega) (fun e => by have := HLT.out.2.2 _ e.symm; omega)).trans HBK.out; obtain ⟨p0, -, -, -, -, -, -, -, -, -⟩ := ha4.cells; obtain ⟨k0, k1, k2, k4⟩ := bucket_cells hbk4; have HA4 := Lib.hid ha4; have HG4 := Lib.hid ((HG3.out.trans (Ga.ofBelow (drew_b _)) (Anew.refl _ _)).trans (Ga.ofGro hgr4) (Anew.refl _ _)); have HN4 := Lib.hid (hn4.back (Nat.le_trans HS1.out (show w1.heap.size ≤ (((w1.alloc (.cells #[.int .u64 2, .int .i64 2, .int .i64 (-63), .int .i64 64, .int .i64 7] 223)).alloc (.cells #[.int .u64 6, .int .i64 3, .int .i64 (-255), .int .i64 256, .int .i64 9] 223)).alloc (.cells #[.int .u64 14, .int .i64 4, .int .i64 (-2047), .int .i64 2048, .int .i64 12] 223)).heap.size from hsz))); have HBK4 := Lib.hid hbk4; have hn4' : Anew (((w1.alloc (.cells #[.int .u64 2, .int .i64 2, .int .i64 (-63), .int .i64 64, .int .i64 7] 223)).alloc (.cells #[.int .u64 6, .int .i64 3, .int .i64 (-255), .int .i64 256, .int .i64 9] 223)).alloc (.cells #[.int .u64 14, .int .i64 4, .int .i64 (-2047), .int .i64 2048, .int .i64 12] 223)) r r4 := hn4; clear hw4 ha4 hgr4 hn4 hbk4))
  go_wp2_with fail
  go_region_held3 (fun w' => w'.cell? ⟨P, 0, none⟩ = some (.pointer (some ⟨B, 0, none⟩)) ∧ w'.cell? ⟨w1.heap.size + 1 + 1, 2, none⟩ = some (.int .i64 (-2047)) ∧ w'.cell? ⟨w1.heap.size + 1 + 1, 4, none⟩ = some (.int .i64 12)) (first | assumption | exact ⟨by assumption, by assumption, by assumption⟩) (first | (go_at_call 69; refine (bits_lit _ B r4 _ _ _ m 12 rfl rfl (HA4.out.below (drew_b _)).wr (by simp [Bt.nb_len]; omega) (Nat.lt_of_lt_of_le HM2.out (by decide)) (by decide)).mono ?_; rintro e w5 ⟨rfl, r5, hw5, hgr5, hn5⟩; have ha5 := (HA4.out.below (drew_b _)).put hw5 hgr5; have hlt4 := HA4.out.lts; have hbk5 := (hgr5.block (w1.heap.size + 1 + 1) (heap_lt HBK4.out) (by have := HLT.out.2.1; omega) (fun e => by have := HN4.out _ e.symm; have hl := HLT.out.2.2; rcases hn4' _ e.symm with h6 | h6; exact (by have := hl _ h6; omega); have := heap_lt HBK.out; omega)).trans HBK4.out; obtain ⟨p0, -, -, -, -, -, -, -, -, -⟩ := ha5.cells; obtain ⟨k0, k1, k2, k4⟩ := bucket_cells hbk5; have HA5 := Lib.hid ha5; have HG5 := Lib.hid ((HG4.out.trans (Ga.ofBelow (drew_b _)) HN4.out).trans (Ga.ofGro hgr5) HN4.out); have HN5 := Lib.hid (HN4.out.trans hn5 HG4.out.size); clear hw5 ha5 hgr5 hn5 hbk5 hlt4))
  go_wp2
  (try simp only [Exit.inBlock, Exit.then])
  refine bodyPost_ret (results_none rfl _ _ _) rfl ?_
  have e5 := HA5.out
  rw [List.append_assoc] at e5
  exact ⟨rfl, r5, e5, HG5.out, HN5.out⟩
set_option maxHeartbeats 2000000 in
set_option maxRecDepth 100000 in
theorem time_b4n {w : World} {P B : Nat} {r : Option Nat} {L : List Bool} {f t : Int} {v step0 n : Nat} {win : Option (Nat × Nat)} (h : Am w P B r L f t v step0 n win) (step : Nat) (d : Int) (hd : wrap64 (IntKind.u64.wrap ((step : Int) - step0)) = d) (hs : step < 18446744073709551616) (hL : L.length < 1099511000000) (hn : n ≠ 1) (h0 : d ≠ 0) (hsd : d < -2047) (hdd : -9223372036854775808 ≤ d ∧ d ≤ 9223372036854775807) :
    Calls Tryz.prog 70 #[.pointer (some ⟨P, 0, none⟩), .int .u64 (step : Int)] w fun e w' => e = .returned (.tuple #[]) ∧ ∃ r', Am w' P B r' (L ++ (Bt.nb 15 4 ++ Bt.nb (d % 18446744073709551616).toNat 64)) f t v step n win ∧ Ga P B r w w' ∧ Anew w r r' := by
  have gn : ((n : Int) == 1) = false := by simp; omega
  have gd : (d == 0) = false := by simp [h0]
  obtain ⟨m, hm⟩ : ∃ m : Nat, (d % 18446744073709551616).toNat = m := ⟨_, rfl⟩
  have hm1 : IntKind.u64.wrap d = (m : Int) := by rw [IntKind.wrap_u64]; omega
  have hm2 : m < 2 ^ 64 := by omega
  have f0a : decide (-63 ≤ d) = false := decide_eq_false (by omega)
  have f1a : decide (-255 ≤ d) = false := decide_eq_false (by omega)
  have f2a : decide (-2047 ≤ d) = false := decide_eq_false (by omega)
  rw [hm]
  have HM2 := Lib.hid hm2
  clear hm2 hm hdd hsd h0
  obtain ⟨c0, -, -, -, c4, c5, -, -, -, fz⟩ := h.cells
  have hoth : ∀ k, k ≠ P → (w.setCell ⟨P, 4, none⟩ (.int .u64 (step : Int))).heap[k]? = w.heap[k]? := fun k hk => heap_setCell_other _ _ _ _ hk
  have ha1 := h.retop (w' := w.setCell ⟨P, 4, none⟩ (.int .u64 (step : Int))) (f' := f) (t' := t) (v' := v) (step' := step) (n' := n) (win' := win) (by rw [heap_setCell_same _ _ _ _ _ _ h.top]; rfl) hoth
  have hg1 : Ga P B r w (w.setCell ⟨P, 4, none⟩ (.int .u64 (step : Int))) := Ga.set hoth rfl rfl rfl (by simp)
  obtain ⟨d0, -, -, -, -, d5, -, -, -, -⟩ := ha1.cells
  have HA1 := Lib.hid ha1
  have HG1 := Lib.hid hg1
  clear h ha1 hg1 hoth
  have hx0 := fun W => (bk_at W).1
  have hx1 := fun W => (bk_at W).2.1
  have hx2 := fun W => (bk_at W).2.2
  unfold bkA at hx0 hx1 hx2
  go_enter Tryz.func70, Tryz.ntmps70
  go_wp2_with (go_at_call 89; refine (buckets_any _).mono ?_; rintro e w1 ⟨rfl, hb1⟩; have HA2 := Lib.hid (HA1.out.below hb1); have HG2 := Lib.hid (HG1.out.trans (Ga.ofBelow hb1) (Anew.refl _ _)); have HS1 := Lib.hid (Nat.le_trans HG1.out.size hb1.size); clear hb1)
  refine wp_loop_rounds 4 ?_
  rw [rounds_succ]
  go_wp2
  rw [rounds_succ]
  go_wp2
  rw [rounds_succ]
  go_wp2
  have hbw : Below w1.heap.size w1 (((w1.alloc (.cells #[.int .u64 2, .int .i64 2, .int .i64 (-63), .int .i64 64, .int .i64 7] 223)).alloc (.cells #[.int .u64 6, .int .i64 3, .int .i64 (-255), .int .i64 256, .int .i64 9] 223)).alloc (.cells #[.int .u64 14, .int .i64 4, .int .i64 (-2047), .int .i64 2048, .int .i64 12] 223)) := ((((Below.refl _ _).alloc (Nat.le_refl _) _).alloc (by simp) _).alloc (by simp; omega) _)
  have HA3 := Lib.hid (HA2.out.below hbw)
  have HG3 := Lib.hid (HG2.out.trans (Ga.ofBelow hbw) (Anew.refl _ _))
  have HS3 := Lib.hid (Nat.le_trans HS1.out hbw.size)
  obtain ⟨p0, -, -, -, -, -, -, -, -, -⟩ := HA3.out.cells
  clear hbw
  rw [rounds_succ]
  go_wp2_with (first | (have tk := HA4; clear tk; go_at_call 69; refine (bits_lit _ B r4 _ _ _ m 64 rfl rfl HA4.out.wr (by simp [Bt.nb_len]; omega) (Nat.lt_of_lt_of_le HM2.out (by decide)) (by decide)).mono ?_; rintro e w5 ⟨rfl, r5, hw5, hgr5, hn5⟩; have HA5 := Lib.hid (HA4.out.put hw5 hgr5); have HG5 := Lib.hid (HG4.out.trans (Ga.ofGro hgr5) HN4.out); have HN5 := Lib.hid (HN4.out.trans hn5 HG4.out.size); clear hw5 hgr5 hn5) | (go_at_call 69; refine (bits_lit _ B r L _ _ 15 4 rfl rfl HA3.out.wr (by omega) (by decide) (by decide)).mono ?_; rintro e w4 ⟨rfl, r4, hw4, hgr4, hn4⟩; have ha4 := HA3.out.put hw4 hgr4; obtain ⟨p0, -, -, -, -, -, -, -, -, -⟩ := ha4.cells; have HA4 := Lib.hid ha4; have HG4 := Lib.hid (HG3.out.trans (Ga.ofGro hgr4) (Anew.refl _ _)); have HN4 := Lib.hid (hn4.back HS3.out); clear hw4 ha4 hgr4 hn4))
  go_end0
  have e5 := HA5.out
  rw [List.append_assoc] at e5
  exact ⟨rfl, r5, e5, HG5.out, HN5.out⟩
set_option maxHeartbeats 2000000 in
set_option maxRecDepth 100000 in
theorem time_b4p {w : World} {P B : Nat} {r : Option Nat} {L : List Bool} {f t : Int} {v step0 n : Nat} {win : Option (Nat × Nat)} (h : Am w P B r L f t v step0 n win) (step : Nat) (d : Int) (hd : wrap64 (IntKind.u64.wrap ((step : Int) - step0)) = d) (hs : step < 18446744073709551616) (hL : L.length < 1099511000000) (hn : n ≠ 1) (h0 : d ≠ 0) (hsd : 2048 < d) (hdd : -9223372036854775808 ≤ d ∧ d ≤ 9223372036854775807) :
    Calls Tryz.prog 70 #[.pointer (some ⟨P, 0, none⟩), .int .u64 (step : Int)] w fun e w' => e = .returned (.tuple #[]) ∧ ∃ r', Am w' P B r' (L ++ (Bt.nb 15 4 ++ Bt.nb (d % 18446744073709551616).toNat 64)) f t v step n win ∧ Ga P B r w w' ∧ Anew w r r' := by
  have gn : ((n : Int) == 1) = false := by simp; omega
  have gd : (d == 0) = false := by simp [h0]
  obtain ⟨m, hm⟩ : ∃ m : Nat, (d % 18446744073709551616).toNat = m := ⟨_, rfl⟩
  have hm1 : IntKind.u64.wrap d = (m : Int) := by rw [IntKind.wrap_u64]; omega
  have hm2 : m < 2 ^ 64 := by omega
  have f0a : decide (-63 ≤ d) = true := decide_eq_true (by omega)
  have f0b : decide (d ≤ 64) = false := decide_eq_false (by omega)
  have f1a : decide (-255 ≤ d) = true := decide_eq_true (by omega)
  have f1b : decide (d ≤ 256) = false := decide_eq_false (by omega)
  have f2a : decide (-2047 ≤ d) = true := decide_eq_true (by omega)
  have f2b : decide (d ≤ 2048) = false := decide_eq_false (by omega)
  rw [hm]
  have HM2 := Lib.hid hm2
  clear hm2 hm hdd hsd h0
  obtain ⟨c0, -, -, -, c4, c5, -, -, -, fz⟩ := h.cells
  have hoth : ∀ k, k ≠ P → (w.setCell ⟨P, 4, none⟩ (.int .u64 (step : Int))).heap[k]? = w.heap[k]? := fun k hk => heap_setCell_other _ _ _ _ hk
  have ha1 := h.retop (w' := w.setCell ⟨P, 4, none⟩ (.int .u64 (step : Int))) (f' := f) (t' := t) (v' := v) (step' := step) (n' := n) (win' := win) (by rw [heap_setCell_same _ _ _ _ _ _ h.top]; rfl) hoth
  have hg1 : Ga P B r w (w.setCell ⟨P, 4, none⟩ (.int .u64 (step : Int))) := Ga.set hoth rfl rfl rfl (by simp)
  obtain ⟨d0, -, -, -, -, d5, -, -, -, -⟩ := ha1.cells
  have HA1 := Lib.hid ha1
  have HG1 := Lib.hid hg1
  clear h ha1 hg1 hoth
  have hx0 := fun W => (bk_at W).1
  have hx1 := fun W => (bk_at W).2.1
  have hx2 := fun W => (bk_at W).2.2
  unfold bkA at hx0 hx1 hx2
  go_enter Tryz.func70, Tryz.ntmps70
  go_wp2_with (go_at_call 89; refine (buckets_any _).mono ?_; rintro e w1 ⟨rfl, hb1⟩; have HA2 := Lib.hid (HA1.out.below hb1); have HG2 := Lib.hid (HG1.out.trans (Ga.ofBelow hb1) (Anew.refl _ _)); have HS1 := Lib.hid (Nat.le_trans HG1.out.size hb1.size); clear hb1)
  refine wp_loop_rounds 4 ?_
  rw [rounds_succ]
  go_wp2
  rw [rounds_succ]
  go_wp2
  rw [rounds_succ]
  go_wp2
  have hbw : Below w1.heap.size w1 (((w1.alloc (.cells #[.int .u64 2, .int .i64 2, .int .i64 (-63), .int .i64 64, .int .i64 7] 223)).alloc (.cells #[.int .u64 6, .int .i64 3, .int .i64 (-255), .int .i64 256, .int .i64 9] 223)).alloc (.cells #[.int .u64 14, .int .i64 4, .int .i64 (-2047), .int .i64 2048, .int .i64 12] 223)) := ((((Below.refl _ _).alloc (Nat.le_refl _) _).alloc (by simp) _).alloc (by simp; omega) _)
  have HA3 := Lib.hid (HA2.out.below hbw)
  have HG3 := Lib.hid (HG2.out.trans (Ga.ofBelow hbw) (Anew.refl _ _))
  have HS3 := Lib.hid (Nat.le_trans HS1.out hbw.size)
  obtain ⟨p0, -, -, -, -, -, -, -, -, -⟩ := HA3.out.cells
  clear hbw
  rw [rounds_succ]
  go_wp2_with (first | (have tk := HA4; clear tk; go_at_call 69; refine (bits_lit _ B r4 _ _ _ m 64 rfl rfl HA4.out.wr (by simp [Bt.nb_len]; omega) (Nat.lt_of_lt_of_le HM2.out (by decide)) (by decide)).mono ?_; rintro e w5 ⟨rfl, r5, hw5, hgr5, hn5⟩; have HA5 := Lib.hid (HA4.out.put hw5 hgr5); have HG5 := Lib.hid (HG4.out.trans (Ga.ofGro hgr5) HN4.out); have HN5 := Lib.hid (HN4.out.trans hn5 HG4.out.size); clear hw5 hgr5 hn5) | (go_at_call 69; refine (bits_lit _ B r L _ _ 15 4 rfl rfl HA3.out.wr (by omega) (by decide) (by decide)).mono ?_; rintro e w4 ⟨rfl, r4, hw4, hgr4, hn4⟩; have ha4 := HA3.out.put hw4 hgr4; obtain ⟨p0, -, -, -, -, -, -, -, -, -⟩ := ha4.cells; have HA4 := Lib.hid ha4; have HG4 := Lib.hid (HG3.out.trans (Ga.ofGro hgr4) (Anew.refl _ _)); have HN4 := Lib.hid (hn4.back HS3.out); clear hw4 ha4 hgr4 hn4))
  go_end0
  have e5 := HA5.out
  rw [List.append_assoc] at e5
  exact ⟨rfl, r5, e5, HG5.out, HN5.out⟩
end Go.Proofs.YtepjpdhmjchakaaGreatDoor
