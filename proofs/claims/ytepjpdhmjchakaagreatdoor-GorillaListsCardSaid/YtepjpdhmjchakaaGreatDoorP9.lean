import Derived.Test.YtepjpdhmjchakaaGreatDoorP8
/- What is told of a number, in memory. -/
namespace Go.Proofs.YtepjpdhmjchakaaGreatDoor
open Go.RowKit
set_option linter.unusedVariables false

/-- A step is told. -/
theorem time_any {w : World} {P B : Nat} {r : Option Nat} {L : List Bool} {f t : Int} {v step0 n : Nat} {win : Option (Nat × Nat)} (h : Am w P B r L f t v step0 n win) (step : Nat) (hs : step ≤ 18014398509481984) (hs0 : step0 ≤ 18014398509481984) (hL : L.length < 1099511000000) :
    Calls Tryz.prog 70 #[.pointer (some ⟨P, 0, none⟩), .int .u64 (step : Int)] w fun e w' => e = .returned (.tuple #[]) ∧ ∃ r', Am w' P B r' (L ++ Gz.timE n ((step : Int) - step0) step) f t v step n win ∧ Ga P B r w w' ∧ Anew w r r' := by
  obtain ⟨d, hd⟩ : ∃ d : Int, d = (step : Int) - step0 := ⟨_, rfl⟩
  have hw : wrap64 (IntKind.u64.wrap ((step : Int) - step0)) = d := by rw [IntKind.wrap_u64]; unfold wrap64; omega
  have hs' : step < 18446744073709551616 := by omega
  rw [← hd]
  unfold Gz.timE
  by_cases h1 : n = 1
  · rw [if_pos h1]
    exact time_one h step d hw hs' hL h1
  rw [if_neg h1]
  by_cases h0 : d = 0
  · rw [if_pos h0]
    exact time_zero h step d hw hs' hL h1 h0
  rw [if_neg h0]
  by_cases c1 : -63 ≤ d ∧ d ≤ 64
  · rw [if_pos c1]
    exact time_b1 h step d hw hs' hL h1 h0 c1
  rw [if_neg c1]
  by_cases c2 : -255 ≤ d ∧ d ≤ 256
  · rw [if_pos c2]
    by_cases hn : d < -63
    · exact time_b2n h step d hw hs' hL h1 h0 hn c2
    · exact time_b2p h step d hw hs' hL h1 h0 (by omega) c2
  rw [if_neg c2]
  by_cases c3 : -2047 ≤ d ∧ d ≤ 2048
  · rw [if_pos c3]
    by_cases hn : d < -255
    · exact time_b3n h step d hw hs' hL h1 h0 hn c3
    · exact time_b3p h step d hw hs' hL h1 h0 (by omega) c3
  rw [if_neg c3]
  by_cases hn : d < -2047
  · exact time_b4n h step d hw hs' hL h1 h0 hn (by omega)
  · exact time_b4p h step d hw hs' hL h1 h0 (by omega) (by omega)

set_option maxHeartbeats 1000000 in
set_option maxRecDepth 100000 in
theorem num_zero {w : World} {P B : Nat} {r : Option Nat} {L : List Bool} {f t : Int} {v step n : Nat} {win : Option (Nat × Nat)} (h : Am w P B r L f t v step n win) (hL : L.length < 1099511000000) :
    Calls Tryz.prog 71 #[.pointer (some ⟨P, 0, none⟩), .int .u64 0] w fun e w' => e = .returned (.tuple #[]) ∧ ∃ r', Am w' P B r' (L ++ [false]) f t v step n win ∧ Ga P B r w w' ∧ Anew w r r' := by
  obtain ⟨c0, -, -, -, -, -, -, -, -, -⟩ := h.cells
  have HA1 := Lib.hid h
  clear h
  go_enter Tryz.func71, Tryz.ntmps71
  go_wp2_with (go_at_call 88; refine (bit_any _ B r L false HA1.out.wr (by omega)).mono ?_; rintro e w1 ⟨rfl, r1, hw1, hgr1, hn1⟩; have HA2 := Lib.hid (HA1.out.put hw1 hgr1); have HG2 := Lib.hid (Ga.ofGro (P := P) hgr1); have HN2 := Lib.hid hn1; clear hw1 hgr1 hn1)
  (try simp only [Exit.inBlock, Exit.then])
  refine bodyPost_ret (results_none rfl _ _ _) rfl ?_
  exact ⟨rfl, r1, HA2.out, HG2.out, HN2.out⟩

/- ways of number -/
theorem wn_cells {w : World} {P B : Nat} {r : Option Nat} {L : List Bool} {f t : Int} {v step n a b : Nat} (h : Am w P B r L f t v step n (some (a, b))) : w.cell? ⟨P, 0, none⟩ = some (.pointer (some ⟨B, 0, none⟩)) ∧ w.cell? ⟨P, 6, none⟩ = some (.int .i64 (a : Int)) ∧ w.cell? ⟨P, 7, none⟩ = some (.int .i64 (b : Int)) ∧ w.cell? ⟨P, 8, none⟩ = some (.bool true) := by
  obtain ⟨d0, -, -, -, -, -, d6, d7, d8, -⟩ := h.cells
  exact ⟨d0, d6, d7, d8⟩
set_option maxHeartbeats 2000000 in
set_option maxRecDepth 100000 in
theorem num_fit_a {w : World} {P B : Nat} {r : Option Nat} {L : List Bool} {f t : Int} {v step n : Nat} {a b : Nat} (h : Am w P B r L f t v step n (some (a, b))) (x k q m : Nat) (HK : ∀ w, Calls Tryz.prog 90 #[.int .u64 (x : Int)] w fun e w' => e = .returned (.int .i64 (k : Int)) ∧ w = w')
    (HQ : ∀ w, TabW w → Calls Tryz.prog 91 #[.int .u64 (x : Int)] w fun e w' => e = .returned (.int .i64 (q : Int)) ∧ w = w') (hk : (k : Int) < 31) (hkq : k + q ≤ 63) (fa : (a : Int) ≤ (k : Int)) (fb : (b : Int) ≤ (q : Int)) (hab : a + b ≤ 63) (hm : (x : Int) / 2 ^ b = (m : Int)) (hml : m < 2 ^ (64 - a - b)) (h0 : 0 < x) (hx : x < 18446744073709551616) (hT : TabW w) (h1P : 1 ≠ P) (h1B : 1 ≠ B) (h1r : r ≠ some 1) (hL : L.length < 1099511000000) :
    Calls Tryz.prog 71 #[.pointer (some ⟨P, 0, none⟩), .int .u64 (x : Int)] w fun e w' => e = .returned (.tuple #[]) ∧ ∃ r', Am w' P B r' (L ++ [true] ++ [false] ++ Bt.nb m (64 - a - b)) f t v step n (some (a, b)) ∧ Ga P B r w w' ∧ Anew w r r' := by
  obtain ⟨c0, -, -, -, -, -, -, -, -, -⟩ := h.cells
  have g0 : ((x : Int) != 0) = true := by simp; omega
  have g1 : ((x : Int) == 0) = false := by simp; omega
  have HA1 := Lib.hid h
  have HKK := Lib.hid HK
  have HQQ := Lib.hid HQ
  have HT := Lib.hid hT
  have HML := Lib.hid (show m < 18446744073709551616 from Nat.lt_of_lt_of_le hml (Nat.pow_le_pow_right (i := 64 - a - b) (j := 64) (by decide) (by omega)))
  have hlb : 1 < w.heap.size := block_lt_of_cell (hT 0 (by omega))
  clear h hT HK HQ hml
  have tk1 := True.intro
  go_enter Tryz.func71, Tryz.ntmps71
  go_wp2_with (first
    | (go_at_call 91; refine Calls.mono (HQQ.out _ HT2.out) ?_; rintro e wz ⟨rfl, hw⟩; subst hw)
    | (go_at_call 90; refine Calls.mono (HKK.out _) ?_; rintro e wz ⟨rfl, hw⟩; subst hw)
    | (go_at_call 88; have tk3 := tk2; clear tk2; refine (bit_any _ B r1 _ false HA2.out.wr (by simp; omega)).mono ?_; rintro e w2 ⟨rfl, r2, hw2, hgr2, hn2⟩; have ha3 := HA2.out.put hw2 hgr2; obtain ⟨d0, d6, d7, d8⟩ := wn_cells ha3; obtain ⟨-, -, -, -, -, -, -, -, -, fz⟩ := ha3.cells; have HA3 := Lib.hid ha3; have HG3 := Lib.hid (HG2.out.trans (Ga.ofGro hgr2) HN2.out); have HN3 := Lib.hid (HN2.out.trans hn2 HG2.out.size); clear ha3 hw2 hgr2 hn2)
    | (go_at_call 88; have tk2 := tk1; clear tk1; refine (bit_any _ B r L true HA1.out.wr (by omega)).mono ?_; rintro e w1 ⟨rfl, r1, hw1, hgr1, hn1⟩; have HT2 := Lib.hid (show TabW w1 from fun j hj => (World.cell?_of_block (a := ⟨1, j, none⟩) (hgr1.block 1 hlb h1B (fun e => h1r e.symm))).trans (HT.out j hj)); have ha2 := HA1.out.put hw1 hgr1; obtain ⟨d0, d6, d7, d8⟩ := wn_cells ha2; obtain ⟨-, -, -, -, -, -, -, -, -, fz⟩ := ha2.cells; have HA2 := Lib.hid ha2; have HG2 := Lib.hid (Ga.ofGro (P := P) hgr1); have HN2 := Lib.hid hn1; clear ha2 hw1 hgr1 hn1))
  go_region_held3 (fun w' => w'.cell? ⟨P, 0, none⟩ = some (.pointer (some ⟨B, 0, none⟩)) ∧ w'.cell? ⟨P, 6, none⟩ = some (.int .i64 (a : Int)) ∧ w'.cell? ⟨P, 7, none⟩ = some (.int .i64 (b : Int)) ∧ w'.cell? ⟨P, 8, none⟩ = some (.bool true)) (first | assumption | exact ⟨by assumption, by assumption, by assumption, by assumption⟩) (first
    | (go_at_call 69; refine (bits_lit _ B r2 _ _ _ m (64 - a - b) rfl (by omega) HA4.out.wr (by simp; omega) HML.out (by omega)).mono ?_; rintro e w5 ⟨rfl, r5, hw5, hgr5, hn5⟩; have ha5 := HA4.out.put hw5 hgr5; obtain ⟨d0, d6, d7, d8⟩ := wn_cells ha5; have HA5 := Lib.hid ha5; have HG5 := Lib.hid (HG4.out.trans (Ga.ofGro hgr5) HN3.out); have HN5 := Lib.hid (HN3.out.trans (hn5.back HS4.out) HG3.out.size); clear ha5 hw5 hgr5 hn5)
    | (go_at_call 92; refine (many_any _ _ _ _ (by omega) (by omega)).mono ?_; rintro e w4 ⟨rfl, hb4⟩; have ha4 := (HA3.out.below (drew_b _)).below hb4; obtain ⟨d0, d6, d7, d8⟩ := wn_cells ha4; have HA4 := Lib.hid ha4; have HG4 := Lib.hid ((HG3.out.trans (Ga.ofBelow (drew_b _)) HN3.out).trans (Ga.ofBelow hb4) HN3.out); have HS4 := Lib.hid (show w2.heap.size ≤ w4.heap.size from hb4.size); clear ha4 hb4))
  go_wp2
  go_end0
  exact ⟨rfl, r5, HA5.out, HG5.out, HN5.out⟩
set_option maxHeartbeats 2000000 in
set_option maxRecDepth 100000 in
theorem num_fit_b {w : World} {P B : Nat} {r : Option Nat} {L : List Bool} {f t : Int} {v step n : Nat} {a b : Nat} (h : Am w P B r L f t v step n (some (a, b))) (x k q m : Nat) (HK : ∀ w, Calls Tryz.prog 90 #[.int .u64 (x : Int)] w fun e w' => e = .returned (.int .i64 (k : Int)) ∧ w = w')
    (HQ : ∀ w, TabW w → Calls Tryz.prog 91 #[.int .u64 (x : Int)] w fun e w' => e = .returned (.int .i64 (q : Int)) ∧ w = w') (hk : (31 : Int) ≤ (k : Int)) (hkq : 31 + q ≤ 63) (fa : (a : Int) ≤ 31) (fb : (b : Int) ≤ (q : Int)) (hab : a + b ≤ 63) (hm : (x : Int) / 2 ^ b = (m : Int)) (hml : m < 2 ^ (64 - a - b)) (h0 : 0 < x) (hx : x < 18446744073709551616) (hT : TabW w) (h1P : 1 ≠ P) (h1B : 1 ≠ B) (h1r : r ≠ some 1) (hL : L.length < 1099511000000) :
    Calls Tryz.prog 71 #[.pointer (some ⟨P, 0, none⟩), .int .u64 (x : Int)] w fun e w' => e = .returned (.tuple #[]) ∧ ∃ r', Am w' P B r' (L ++ [true] ++ [false] ++ Bt.nb m (64 - a - b)) f t v step n (some (a, b)) ∧ Ga P B r w w' ∧ Anew w r r' := by
  obtain ⟨c0, -, -, -, -, -, -, -, -, -⟩ := h.cells
  have g0 : ((x : Int) != 0) = true := by simp; omega
  have g1 : ((x : Int) == 0) = false := by simp; omega
  have HA1 := Lib.hid h
  have HKK := Lib.hid HK
  have HQQ := Lib.hid HQ
  have HT := Lib.hid hT
  have HML := Lib.hid (show m < 18446744073709551616 from Nat.lt_of_lt_of_le hml (Nat.pow_le_pow_right (i := 64 - a - b) (j := 64) (by decide) (by omega)))
  have hlb : 1 < w.heap.size := block_lt_of_cell (hT 0 (by omega))
  clear h hT HK HQ hml
  have tk1 := True.intro
  go_enter Tryz.func71, Tryz.ntmps71
  go_wp2_with (first
    | (go_at_call 91; refine Calls.mono (HQQ.out _ HT2.out) ?_; rintro e wz ⟨rfl, hw⟩; subst hw)
    | (go_at_call 90; refine Calls.mono (HKK.out _) ?_; rintro e wz ⟨rfl, hw⟩; subst hw)
    | (go_at_call 88; have tk3 := tk2; clear tk2; refine (bit_any _ B r1 _ false HA2.out.wr (by simp; omega)).mono ?_; rintro e w2 ⟨rfl, r2, hw2, hgr2, hn2⟩; have ha3 := HA2.out.put hw2 hgr2; obtain ⟨d0, d6, d7, d8⟩ := wn_cells ha3; obtain ⟨-, -, -, -, -, -, -, -, -, fz⟩ := ha3.cells; have HA3 := Lib.hid ha3; have HG3 := Lib.hid (HG2.out.trans (Ga.ofGro hgr2) HN2.out); have HN3 := Lib.hid (HN2.out.trans hn2 HG2.out.size); clear ha3 hw2 hgr2 hn2)
    | (go_at_call 88; have tk2 := tk1; clear tk1; refine (bit_any _ B r L true HA1.out.wr (by omega)).mono ?_; rintro e w1 ⟨rfl, r1, hw1, hgr1, hn1⟩; have HT2 := Lib.hid (show TabW w1 from fun j hj => (World.cell?_of_block (a := ⟨1, j, none⟩) (hgr1.block 1 hlb h1B (fun e => h1r e.symm))).trans (HT.out j hj)); have ha2 := HA1.out.put hw1 hgr1; obtain ⟨d0, d6, d7, d8⟩ := wn_cells ha2; obtain ⟨-, -, -, -, -, -, -, -, -, fz⟩ := ha2.cells; have HA2 := Lib.hid ha2; have HG2 := Lib.hid (Ga.ofGro (P := P) hgr1); have HN2 := Lib.hid hn1; clear ha2 hw1 hgr1 hn1))
  go_region_held3 (fun w' => w'.cell? ⟨P, 0, none⟩ = some (.pointer (some ⟨B, 0, none⟩)) ∧ w'.cell? ⟨P, 6, none⟩ = some (.int .i64 (a : Int)) ∧ w'.cell? ⟨P, 7, none⟩ = some (.int .i64 (b : Int)) ∧ w'.cell? ⟨P, 8, none⟩ = some (.bool true)) (first | assumption | exact ⟨by assumption, by assumption, by assumption, by assumption⟩) (first
    | (go_at_call 69; refine (bits_lit _ B r2 _ _ _ m (64 - a - b) rfl (by omega) HA4.out.wr (by simp; omega) HML.out (by omega)).mono ?_; rintro e w5 ⟨rfl, r5, hw5, hgr5, hn5⟩; have ha5 := HA4.out.put hw5 hgr5; obtain ⟨d0, d6, d7, d8⟩ := wn_cells ha5; have HA5 := Lib.hid ha5; have HG5 := Lib.hid (HG4.out.trans (Ga.ofGro hgr5) HN3.out); have HN5 := Lib.hid (HN3.out.trans (hn5.back HS4.out) HG3.out.size); clear ha5 hw5 hgr5 hn5)
    | (go_at_call 92; refine (many_any _ _ _ _ (by omega) (by omega)).mono ?_; rintro e w4 ⟨rfl, hb4⟩; have ha4 := (HA3.out.below (drew_b _)).below hb4; obtain ⟨d0, d6, d7, d8⟩ := wn_cells ha4; have HA4 := Lib.hid ha4; have HG4 := Lib.hid ((HG3.out.trans (Ga.ofBelow (drew_b _)) HN3.out).trans (Ga.ofBelow hb4) HN3.out); have HS4 := Lib.hid (show w2.heap.size ≤ w4.heap.size from hb4.size); clear ha4 hb4))
  go_wp2
  go_end0
  exact ⟨rfl, r5, HA5.out, HG5.out, HN5.out⟩
set_option maxHeartbeats 2000000 in
set_option maxRecDepth 100000 in
theorem num_none_a {w : World} {P B : Nat} {r : Option Nat} {L : List Bool} {f t : Int} {v step n : Nat} (h : Am w P B r L f t v step n none) (x k q m : Nat) (HK : ∀ w, Calls Tryz.prog 90 #[.int .u64 (x : Int)] w fun e w' => e = .returned (.int .i64 (k : Int)) ∧ w = w')
    (HQ : ∀ w, TabW w → Calls Tryz.prog 91 #[.int .u64 (x : Int)] w fun e w' => e = .returned (.int .i64 (q : Int)) ∧ w = w') (hk : (k : Int) < 31) (hkq : k + q ≤ 63)  (hm : (x : Int) / 2 ^ q = (m : Int)) (hml : m < 2 ^ (64 - k - q)) (h0 : 0 < x) (hx : x < 18446744073709551616) (hT : TabW w) (h1P : 1 ≠ P) (h1B : 1 ≠ B) (h1r : r ≠ some 1) (hL : L.length < 1099511000000) :
    Calls Tryz.prog 71 #[.pointer (some ⟨P, 0, none⟩), .int .u64 (x : Int)] w fun e w' => e = .returned (.tuple #[]) ∧ ∃ r', Am w' P B r' (L ++ [true] ++ [true] ++ Bt.nb k 5 ++ Bt.nb (63 - k - q) 6 ++ Bt.nb m (64 - k - q)) f t v step n (some (k, q)) ∧ Ga P B r w w' ∧ Anew w r r' := by
  obtain ⟨c0, -, -, -, -, -, -, -, -, -⟩ := h.cells
  have g0 : ((x : Int) != 0) = true := by simp; omega
  have g1 : ((x : Int) == 0) = false := by simp; omega
  have HA1 := Lib.hid h
  have HKK := Lib.hid HK
  have HQQ := Lib.hid HQ
  have HT := Lib.hid hT
  have HML := Lib.hid (show m < 18446744073709551616 from Nat.lt_of_lt_of_le hml (Nat.pow_le_pow_right (i := 64 - k - q) (j := 64) (by decide) (by omega)))
  have hlb : 1 < w.heap.size := block_lt_of_cell (hT 0 (by omega))
  clear h hT HK HQ hml
  have tk1 := True.intro
  go_enter Tryz.func71, Tryz.ntmps71
  go_wp2_with (first
    | (go_at_call 91; refine Calls.mono (HQQ.out _ HT2.out) ?_; rintro e wz ⟨rfl, hw⟩; subst hw)
    | (go_at_call 90; refine Calls.mono (HKK.out _) ?_; rintro e wz ⟨rfl, hw⟩; subst hw)
    | (go_at_call 88; have tk3 := tk2; clear tk2; refine (bit_any _ B r1 _ true HA2.out.wr (by simp; omega)).mono ?_; rintro e w2 ⟨rfl, r2, hw2, hgr2, hn2⟩; have ha3 := HA2.out.put hw2 hgr2; obtain ⟨d0, -, -, -, -, -, d6, d7, d8, fz⟩ := ha3.cells; have d6 : w2.cell? ⟨P, 6, none⟩ = some (.int .i64 0) := d6; have d7 : w2.cell? ⟨P, 7, none⟩ = some (.int .i64 0) := d7; have d8 : w2.cell? ⟨P, 8, none⟩ = some (.bool false) := d8; have HA3 := Lib.hid ha3; have HG3 := Lib.hid (HG2.out.trans (Ga.ofGro hgr2) HN2.out); have HN3 := Lib.hid (HN2.out.trans hn2 HG2.out.size); have ha4 := ha3.retop (w' := ((w2.setCell ⟨P, 6, none⟩ (.int .i64 (k : Int))).setCell ⟨P, 7, none⟩ (.int .i64 (q : Int))).setCell ⟨P, 8, none⟩ (.bool true)) (f' := f) (t' := t) (v' := v) (step' := step) (n' := n) (win' := some (k, q)) (by rw [heap_setCell_same _ _ _ _ _ _ (heap_setCell_same _ _ _ _ _ _ (heap_setCell_same _ _ _ _ _ _ ha3.top))]; rfl) (fun k hk => ((heap_setCell_other _ _ _ _ hk).trans (heap_setCell_other _ _ _ _ hk)).trans (heap_setCell_other _ _ _ _ hk)); obtain ⟨y0, y6, y7, y8⟩ := wn_cells ha4; have HA4 := Lib.hid ha4; have HS4 := Lib.hid (show w2.heap.size ≤ (((w2.setCell ⟨P, 6, none⟩ (.int .i64 (k : Int))).setCell ⟨P, 7, none⟩ (.int .i64 (q : Int))).setCell ⟨P, 8, none⟩ (.bool true)).heap.size by simp); have HG4 := Lib.hid (HG3.out.trans (Ga.set (P := P) (B := B) (r := r2) (w' := ((w2.setCell ⟨P, 6, none⟩ (.int .i64 (k : Int))).setCell ⟨P, 7, none⟩ (.int .i64 (q : Int))).setCell ⟨P, 8, none⟩ (.bool true)) (fun k hk => ((heap_setCell_other _ _ _ _ hk).trans (heap_setCell_other _ _ _ _ hk)).trans (heap_setCell_other _ _ _ _ hk)) rfl rfl rfl (by simp)) HN3.out); clear ha4; clear ha3 hw2 hgr2 hn2)
    | (go_at_call 88; have tk2 := tk1; clear tk1; refine (bit_any _ B r L true HA1.out.wr (by omega)).mono ?_; rintro e w1 ⟨rfl, r1, hw1, hgr1, hn1⟩; have HT2 := Lib.hid (show TabW w1 from fun j hj => (World.cell?_of_block (a := ⟨1, j, none⟩) (hgr1.block 1 hlb h1B (fun e => h1r e.symm))).trans (HT.out j hj)); have ha2 := HA1.out.put hw1 hgr1; obtain ⟨d0, -, -, -, -, -, d6, d7, d8, fz⟩ := ha2.cells; have d6 : w1.cell? ⟨P, 6, none⟩ = some (.int .i64 0) := d6; have d7 : w1.cell? ⟨P, 7, none⟩ = some (.int .i64 0) := d7; have d8 : w1.cell? ⟨P, 8, none⟩ = some (.bool false) := d8; have HA2 := Lib.hid ha2; have HG2 := Lib.hid (Ga.ofGro (P := P) hgr1); have HN2 := Lib.hid hn1; clear ha2 hw1 hgr1 hn1)
    | (go_at_call 69; have tk4 := tk3; clear tk3; refine (bits_lit _ B r2 _ _ _ k 5 (by first | rfl | (rw [IntKind.wrap_u64]; omega)) rfl HA4.out.wr (by simp; omega) (by omega) (by decide)).mono ?_; rintro e w5 ⟨rfl, r5, hw5, hgr5, hn5⟩; have ha5 := HA4.out.put hw5 hgr5; obtain ⟨d0, d6, d7, d8⟩ := wn_cells ha5; have HA5 := Lib.hid ha5; have HG5 := Lib.hid (HG4.out.trans (Ga.ofGro hgr5) HN3.out); have HN5 := Lib.hid (HN3.out.trans (hn5.back HS4.out) HG3.out.size); clear ha5 hw5 hgr5 hn5))
  have tkb6 := True.intro
  go_region_held3 (fun w' => w'.cell? ⟨P, 0, none⟩ = some (.pointer (some ⟨B, 0, none⟩)) ∧ w'.cell? ⟨P, 6, none⟩ = some (.int .i64 (k : Int)) ∧ w'.cell? ⟨P, 7, none⟩ = some (.int .i64 (q : Int)) ∧ w'.cell? ⟨P, 8, none⟩ = some (.bool true)) (first | assumption | exact ⟨by assumption, by assumption, by assumption, by assumption⟩) (first
    | (go_at_call 69; refine (bits_lit _ B r5 _ _ _ (63 - k - q) (6) (by first | (rw [IntKind.wrap_u64, IntKind.wrap_i64]; omega) | (rw [IntKind.wrap_u64]; omega) | omega) rfl HA6.out.wr (by simp [Bt.nb_len]; omega) (by omega) (by omega)).mono ?_; rintro e w7 ⟨rfl, r7, hw7, hgr7, hn7⟩; have ha7 := HA6.out.put hw7 hgr7; obtain ⟨d0, d6, d7, d8⟩ := wn_cells ha7; have HA7 := Lib.hid ha7; have HG7 := Lib.hid (HG6.out.trans (Ga.ofGro hgr7) HN5.out); have HN7 := Lib.hid (HN5.out.trans (hn7.back HS6.out) HG5.out.size); clear ha7 hw7 hgr7 hn7)
    | (go_at_call 92; have tkm6 := tkb6; refine (many_any _ _ _ _ (by omega) (by omega)).mono ?_; rintro e w6 ⟨rfl, hb6⟩; have ha6 := (HA5.out.below (drew_b _)).below hb6; obtain ⟨d0, d6, d7, d8⟩ := wn_cells ha6; have HA6 := Lib.hid ha6; have HG6 := Lib.hid ((HG5.out.trans (Ga.ofBelow (drew_b _)) HN5.out).trans (Ga.ofBelow hb6) HN5.out); have HS6 := Lib.hid (show w5.heap.size ≤ w6.heap.size from hb6.size); clear ha6 hb6))
  have tkb8 := True.intro
  go_wp2_with fail
  go_region_held3 (fun w' => w'.cell? ⟨P, 0, none⟩ = some (.pointer (some ⟨B, 0, none⟩)) ∧ w'.cell? ⟨P, 6, none⟩ = some (.int .i64 (k : Int)) ∧ w'.cell? ⟨P, 7, none⟩ = some (.int .i64 (q : Int)) ∧ w'.cell? ⟨P, 8, none⟩ = some (.bool true)) (first | assumption | exact ⟨by assumption, by assumption, by assumption, by assumption⟩) (first
    | (go_at_call 69; refine (bits_lit _ B r7 _ _ _ (m) (64 - k - q) (by first | rfl | omega) (by omega) HA8.out.wr (by simp [Bt.nb_len]; omega) HML.out (by omega)).mono ?_; rintro e w9 ⟨rfl, r9, hw9, hgr9, hn9⟩; have ha9 := HA8.out.put hw9 hgr9; obtain ⟨d0, d6, d7, d8⟩ := wn_cells ha9; have HA9 := Lib.hid ha9; have HG9 := Lib.hid (HG8.out.trans (Ga.ofGro hgr9) HN7.out); have HN9 := Lib.hid (HN7.out.trans (hn9.back HS8.out) HG7.out.size); clear ha9 hw9 hgr9 hn9)
    | (go_at_call 92; have tkm8 := tkb8; refine (many_any _ _ _ _ (by omega) (by omega)).mono ?_; rintro e w8 ⟨rfl, hb8⟩; have ha8 := (HA7.out.below (drew_b _)).below hb8; obtain ⟨d0, d6, d7, d8⟩ := wn_cells ha8; have HA8 := Lib.hid ha8; have HG8 := Lib.hid ((HG7.out.trans (Ga.ofBelow (drew_b _)) HN7.out).trans (Ga.ofBelow hb8) HN7.out); have HS8 := Lib.hid (show w7.heap.size ≤ w8.heap.size from hb8.size); clear ha8 hb8))
  go_wp2
  go_end0
  exact ⟨rfl, r9, HA9.out, HG9.out, HN9.out⟩
set_option maxHeartbeats 2000000 in
set_option maxRecDepth 100000 in
theorem num_none_b {w : World} {P B : Nat} {r : Option Nat} {L : List Bool} {f t : Int} {v step n : Nat} (h : Am w P B r L f t v step n none) (x k q m : Nat) (HK : ∀ w, Calls Tryz.prog 90 #[.int .u64 (x : Int)] w fun e w' => e = .returned (.int .i64 (k : Int)) ∧ w = w')
    (HQ : ∀ w, TabW w → Calls Tryz.prog 91 #[.int .u64 (x : Int)] w fun e w' => e = .returned (.int .i64 (q : Int)) ∧ w = w') (hk : (31 : Int) ≤ (k : Int)) (hkq : 31 + q ≤ 63)  (hm : (x : Int) / 2 ^ q = (m : Int)) (hml : m < 2 ^ (64 - 31 - q)) (h0 : 0 < x) (hx : x < 18446744073709551616) (hT : TabW w) (h1P : 1 ≠ P) (h1B : 1 ≠ B) (h1r : r ≠ some 1) (hL : L.length < 1099511000000) :
    Calls Tryz.prog 71 #[.pointer (some ⟨P, 0, none⟩), .int .u64 (x : Int)] w fun e w' => e = .returned (.tuple #[]) ∧ ∃ r', Am w' P B r' (L ++ [true] ++ [true] ++ Bt.nb 31 5 ++ Bt.nb (63 - 31 - q) 6 ++ Bt.nb m (64 - 31 - q)) f t v step n (some (31, q)) ∧ Ga P B r w w' ∧ Anew w r r' := by
  obtain ⟨c0, -, -, -, -, -, -, -, -, -⟩ := h.cells
  have g0 : ((x : Int) != 0) = true := by simp; omega
  have g1 : ((x : Int) == 0) = false := by simp; omega
  have HA1 := Lib.hid h
  have HKK := Lib.hid HK
  have HQQ := Lib.hid HQ
  have HT := Lib.hid hT
  have HML := Lib.hid (show m < 18446744073709551616 from Nat.lt_of_lt_of_le hml (Nat.pow_le_pow_right (i := 64 - 31 - q) (j := 64) (by decide) (by omega)))
  have hlb : 1 < w.heap.size := block_lt_of_cell (hT 0 (by omega))
  clear h hT HK HQ hml
  have tk1 := True.intro
  go_enter Tryz.func71, Tryz.ntmps71
  go_wp2_with (first
    | (go_at_call 91; refine Calls.mono (HQQ.out _ HT2.out) ?_; rintro e wz ⟨rfl, hw⟩; subst hw)
    | (go_at_call 90; refine Calls.mono (HKK.out _) ?_; rintro e wz ⟨rfl, hw⟩; subst hw)
    | (go_at_call 88; have tk3 := tk2; clear tk2; refine (bit_any _ B r1 _ true HA2.out.wr (by simp; omega)).mono ?_; rintro e w2 ⟨rfl, r2, hw2, hgr2, hn2⟩; have ha3 := HA2.out.put hw2 hgr2; obtain ⟨d0, -, -, -, -, -, d6, d7, d8, fz⟩ := ha3.cells; have d6 : w2.cell? ⟨P, 6, none⟩ = some (.int .i64 0) := d6; have d7 : w2.cell? ⟨P, 7, none⟩ = some (.int .i64 0) := d7; have d8 : w2.cell? ⟨P, 8, none⟩ = some (.bool false) := d8; have HA3 := Lib.hid ha3; have HG3 := Lib.hid (HG2.out.trans (Ga.ofGro hgr2) HN2.out); have HN3 := Lib.hid (HN2.out.trans hn2 HG2.out.size); have ha4 := ha3.retop (w' := ((w2.setCell ⟨P, 6, none⟩ (.int .i64 (31 : Int))).setCell ⟨P, 7, none⟩ (.int .i64 (q : Int))).setCell ⟨P, 8, none⟩ (.bool true)) (f' := f) (t' := t) (v' := v) (step' := step) (n' := n) (win' := some (31, q)) (by rw [heap_setCell_same _ _ _ _ _ _ (heap_setCell_same _ _ _ _ _ _ (heap_setCell_same _ _ _ _ _ _ ha3.top))]; rfl) (fun k hk => ((heap_setCell_other _ _ _ _ hk).trans (heap_setCell_other _ _ _ _ hk)).trans (heap_setCell_other _ _ _ _ hk)); obtain ⟨y0, y6, y7, y8⟩ := wn_cells ha4; have HA4 := Lib.hid ha4; have HS4 := Lib.hid (show w2.heap.size ≤ (((w2.setCell ⟨P, 6, none⟩ (.int .i64 (31 : Int))).setCell ⟨P, 7, none⟩ (.int .i64 (q : Int))).setCell ⟨P, 8, none⟩ (.bool true)).heap.size by simp); have HG4 := Lib.hid (HG3.out.trans (Ga.set (P := P) (B := B) (r := r2) (w' := ((w2.setCell ⟨P, 6, none⟩ (.int .i64 (31 : Int))).setCell ⟨P, 7, none⟩ (.int .i64 (q : Int))).setCell ⟨P, 8, none⟩ (.bool true)) (fun k hk => ((heap_setCell_other _ _ _ _ hk).trans (heap_setCell_other _ _ _ _ hk)).trans (heap_setCell_other _ _ _ _ hk)) rfl rfl rfl (by simp)) HN3.out); clear ha4; clear ha3 hw2 hgr2 hn2)
    | (go_at_call 88; have tk2 := tk1; clear tk1; refine (bit_any _ B r L true HA1.out.wr (by omega)).mono ?_; rintro e w1 ⟨rfl, r1, hw1, hgr1, hn1⟩; have HT2 := Lib.hid (show TabW w1 from fun j hj => (World.cell?_of_block (a := ⟨1, j, none⟩) (hgr1.block 1 hlb h1B (fun e => h1r e.symm))).trans (HT.out j hj)); have ha2 := HA1.out.put hw1 hgr1; obtain ⟨d0, -, -, -, -, -, d6, d7, d8, fz⟩ := ha2.cells; have d6 : w1.cell? ⟨P, 6, none⟩ = some (.int .i64 0) := d6; have d7 : w1.cell? ⟨P, 7, none⟩ = some (.int .i64 0) := d7; have d8 : w1.cell? ⟨P, 8, none⟩ = some (.bool false) := d8; have HA2 := Lib.hid ha2; have HG2 := Lib.hid (Ga.ofGro (P := P) hgr1); have HN2 := Lib.hid hn1; clear ha2 hw1 hgr1 hn1)
    | (go_at_call 69; have tk4 := tk3; clear tk3; refine (bits_lit _ B r2 _ _ _ 31 5 (by first | rfl | (rw [IntKind.wrap_u64]; omega)) rfl HA4.out.wr (by simp; omega) (by omega) (by decide)).mono ?_; rintro e w5 ⟨rfl, r5, hw5, hgr5, hn5⟩; have ha5 := HA4.out.put hw5 hgr5; obtain ⟨d0, d6, d7, d8⟩ := wn_cells ha5; have HA5 := Lib.hid ha5; have HG5 := Lib.hid (HG4.out.trans (Ga.ofGro hgr5) HN3.out); have HN5 := Lib.hid (HN3.out.trans (hn5.back HS4.out) HG3.out.size); clear ha5 hw5 hgr5 hn5))
  have tkb6 := True.intro
  go_region_held3 (fun w' => w'.cell? ⟨P, 0, none⟩ = some (.pointer (some ⟨B, 0, none⟩)) ∧ w'.cell? ⟨P, 6, none⟩ = some (.int .i64 (31 : Int)) ∧ w'.cell? ⟨P, 7, none⟩ = some (.int .i64 (q : Int)) ∧ w'.cell? ⟨P, 8, none⟩ = some (.bool true)) (first | assumption | exact ⟨by assumption, by assumption, by assumption, by assumption⟩) (first
    | (go_at_call 69; refine (bits_lit _ B r5 _ _ _ (63 - 31 - q) (6) (by first | (rw [IntKind.wrap_u64, IntKind.wrap_i64]; omega) | (rw [IntKind.wrap_u64]; omega) | omega) rfl HA6.out.wr (by simp [Bt.nb_len]; omega) (by omega) (by omega)).mono ?_; rintro e w7 ⟨rfl, r7, hw7, hgr7, hn7⟩; have ha7 := HA6.out.put hw7 hgr7; obtain ⟨d0, d6, d7, d8⟩ := wn_cells ha7; have HA7 := Lib.hid ha7; have HG7 := Lib.hid (HG6.out.trans (Ga.ofGro hgr7) HN5.out); have HN7 := Lib.hid (HN5.out.trans (hn7.back HS6.out) HG5.out.size); clear ha7 hw7 hgr7 hn7)
    | (go_at_call 92; have tkm6 := tkb6; refine (many_any _ _ _ _ (by omega) (by omega)).mono ?_; rintro e w6 ⟨rfl, hb6⟩; have ha6 := (HA5.out.below (drew_b _)).below hb6; obtain ⟨d0, d6, d7, d8⟩ := wn_cells ha6; have HA6 := Lib.hid ha6; have HG6 := Lib.hid ((HG5.out.trans (Ga.ofBelow (drew_b _)) HN5.out).trans (Ga.ofBelow hb6) HN5.out); have HS6 := Lib.hid (show w5.heap.size ≤ w6.heap.size from hb6.size); clear ha6 hb6))
  have tkb8 := True.intro
  go_wp2_with fail
  go_region_held3 (fun w' => w'.cell? ⟨P, 0, none⟩ = some (.pointer (some ⟨B, 0, none⟩)) ∧ w'.cell? ⟨P, 6, none⟩ = some (.int .i64 (31 : Int)) ∧ w'.cell? ⟨P, 7, none⟩ = some (.int .i64 (q : Int)) ∧ w'.cell? ⟨P, 8, none⟩ = some (.bool true)) (first | assumption | exact ⟨by assumption, by assumption, by assumption, by assumption⟩) (first
    | (go_at_call 69; refine (bits_lit _ B r7 _ _ _ (m) (64 - 31 - q) (by first | rfl | omega) (by omega) HA8.out.wr (by simp [Bt.nb_len]; omega) HML.out (by omega)).mono ?_; rintro e w9 ⟨rfl, r9, hw9, hgr9, hn9⟩; have ha9 := HA8.out.put hw9 hgr9; obtain ⟨d0, d6, d7, d8⟩ := wn_cells ha9; have HA9 := Lib.hid ha9; have HG9 := Lib.hid (HG8.out.trans (Ga.ofGro hgr9) HN7.out); have HN9 := Lib.hid (HN7.out.trans (hn9.back HS8.out) HG7.out.size); clear ha9 hw9 hgr9 hn9)
    | (go_at_call 92; have tkm8 := tkb8; refine (many_any _ _ _ _ (by omega) (by omega)).mono ?_; rintro e w8 ⟨rfl, hb8⟩; have ha8 := (HA7.out.below (drew_b _)).below hb8; obtain ⟨d0, d6, d7, d8⟩ := wn_cells ha8; have HA8 := Lib.hid ha8; have HG8 := Lib.hid ((HG7.out.trans (Ga.ofBelow (drew_b _)) HN7.out).trans (Ga.ofBelow hb8) HN7.out); have HS8 := Lib.hid (show w7.heap.size ≤ w8.heap.size from hb8.size); clear ha8 hb8))
  go_wp2
  go_end0
  exact ⟨rfl, r9, HA9.out, HG9.out, HN9.out⟩
set_option maxHeartbeats 2000000 in
set_option maxRecDepth 100000 in
theorem num_ul_a {w : World} {P B : Nat} {r : Option Nat} {L : List Bool} {f t : Int} {v step n : Nat} {a b : Nat} (h : Am w P B r L f t v step n (some (a, b))) (x k q m : Nat) (HK : ∀ w, Calls Tryz.prog 90 #[.int .u64 (x : Int)] w fun e w' => e = .returned (.int .i64 (k : Int)) ∧ w = w')
    (HQ : ∀ w, TabW w → Calls Tryz.prog 91 #[.int .u64 (x : Int)] w fun e w' => e = .returned (.int .i64 (q : Int)) ∧ w = w') (hk : (k : Int) < 31) (hkq : k + q ≤ 63) (fa : (k : Int) < (a : Int)) (hm : (x : Int) / 2 ^ q = (m : Int)) (hml : m < 2 ^ (64 - k - q)) (h0 : 0 < x) (hx : x < 18446744073709551616) (hT : TabW w) (h1P : 1 ≠ P) (h1B : 1 ≠ B) (h1r : r ≠ some 1) (hL : L.length < 1099511000000) :
    Calls Tryz.prog 71 #[.pointer (some ⟨P, 0, none⟩), .int .u64 (x : Int)] w fun e w' => e = .returned (.tuple #[]) ∧ ∃ r', Am w' P B r' (L ++ [true] ++ [true] ++ Bt.nb k 5 ++ Bt.nb (63 - k - q) 6 ++ Bt.nb m (64 - k - q)) f t v step n (some (k, q)) ∧ Ga P B r w w' ∧ Anew w r r' := by
  obtain ⟨c0, -, -, -, -, -, -, -, -, -⟩ := h.cells
  have g0 : ((x : Int) != 0) = true := by simp; omega
  have g1 : ((x : Int) == 0) = false := by simp; omega
  have HA1 := Lib.hid h
  have HKK := Lib.hid HK
  have HQQ := Lib.hid HQ
  have HT := Lib.hid hT
  have HML := Lib.hid (show m < 18446744073709551616 from Nat.lt_of_lt_of_le hml (Nat.pow_le_pow_right (i := 64 - k - q) (j := 64) (by decide) (by omega)))
  have hlb : 1 < w.heap.size := block_lt_of_cell (hT 0 (by omega))
  clear h hT HK HQ hml
  have tk1 := True.intro
  go_enter Tryz.func71, Tryz.ntmps71
  go_wp2_with (first
    | (go_at_call 91; refine Calls.mono (HQQ.out _ HT2.out) ?_; rintro e wz ⟨rfl, hw⟩; subst hw)
    | (go_at_call 90; refine Calls.mono (HKK.out _) ?_; rintro e wz ⟨rfl, hw⟩; subst hw)
    | (go_at_call 88; have tk3 := tk2; clear tk2; refine (bit_any _ B r1 _ true HA2.out.wr (by simp; omega)).mono ?_; rintro e w2 ⟨rfl, r2, hw2, hgr2, hn2⟩; have ha3 := HA2.out.put hw2 hgr2; obtain ⟨d0, d6, d7, d8⟩ := wn_cells ha3; obtain ⟨-, -, -, -, -, -, -, -, -, fz⟩ := ha3.cells; have HA3 := Lib.hid ha3; have HG3 := Lib.hid (HG2.out.trans (Ga.ofGro hgr2) HN2.out); have HN3 := Lib.hid (HN2.out.trans hn2 HG2.out.size); have ha4 := ha3.retop (w' := ((w2.setCell ⟨P, 6, none⟩ (.int .i64 (k : Int))).setCell ⟨P, 7, none⟩ (.int .i64 (q : Int))).setCell ⟨P, 8, none⟩ (.bool true)) (f' := f) (t' := t) (v' := v) (step' := step) (n' := n) (win' := some (k, q)) (by rw [heap_setCell_same _ _ _ _ _ _ (heap_setCell_same _ _ _ _ _ _ (heap_setCell_same _ _ _ _ _ _ ha3.top))]; rfl) (fun k hk => ((heap_setCell_other _ _ _ _ hk).trans (heap_setCell_other _ _ _ _ hk)).trans (heap_setCell_other _ _ _ _ hk)); obtain ⟨y0, y6, y7, y8⟩ := wn_cells ha4; have HA4 := Lib.hid ha4; have HS4 := Lib.hid (show w2.heap.size ≤ (((w2.setCell ⟨P, 6, none⟩ (.int .i64 (k : Int))).setCell ⟨P, 7, none⟩ (.int .i64 (q : Int))).setCell ⟨P, 8, none⟩ (.bool true)).heap.size by simp); have HG4 := Lib.hid (HG3.out.trans (Ga.set (P := P) (B := B) (r := r2) (w' := ((w2.setCell ⟨P, 6, none⟩ (.int .i64 (k : Int))).setCell ⟨P, 7, none⟩ (.int .i64 (q : Int))).setCell ⟨P, 8, none⟩ (.bool true)) (fun k hk => ((heap_setCell_other _ _ _ _ hk).trans (heap_setCell_other _ _ _ _ hk)).trans (heap_setCell_other _ _ _ _ hk)) rfl rfl rfl (by simp)) HN3.out); clear ha4; clear ha3 hw2 hgr2 hn2)
    | (go_at_call 88; have tk2 := tk1; clear tk1; refine (bit_any _ B r L true HA1.out.wr (by omega)).mono ?_; rintro e w1 ⟨rfl, r1, hw1, hgr1, hn1⟩; have HT2 := Lib.hid (show TabW w1 from fun j hj => (World.cell?_of_block (a := ⟨1, j, none⟩) (hgr1.block 1 hlb h1B (fun e => h1r e.symm))).trans (HT.out j hj)); have ha2 := HA1.out.put hw1 hgr1; obtain ⟨d0, d6, d7, d8⟩ := wn_cells ha2; obtain ⟨-, -, -, -, -, -, -, -, -, fz⟩ := ha2.cells; have HA2 := Lib.hid ha2; have HG2 := Lib.hid (Ga.ofGro (P := P) hgr1); have HN2 := Lib.hid hn1; clear ha2 hw1 hgr1 hn1)
    | (go_at_call 69; have tk4 := tk3; clear tk3; refine (bits_lit _ B r2 _ _ _ k 5 (by first | rfl | (rw [IntKind.wrap_u64]; omega)) rfl HA4.out.wr (by simp; omega) (by omega) (by decide)).mono ?_; rintro e w5 ⟨rfl, r5, hw5, hgr5, hn5⟩; have ha5 := HA4.out.put hw5 hgr5; obtain ⟨d0, d6, d7, d8⟩ := wn_cells ha5; have HA5 := Lib.hid ha5; have HG5 := Lib.hid (HG4.out.trans (Ga.ofGro hgr5) HN3.out); have HN5 := Lib.hid (HN3.out.trans (hn5.back HS4.out) HG3.out.size); clear ha5 hw5 hgr5 hn5))
  have tkb6 := True.intro
  go_region_held3 (fun w' => w'.cell? ⟨P, 0, none⟩ = some (.pointer (some ⟨B, 0, none⟩)) ∧ w'.cell? ⟨P, 6, none⟩ = some (.int .i64 (k : Int)) ∧ w'.cell? ⟨P, 7, none⟩ = some (.int .i64 (q : Int)) ∧ w'.cell? ⟨P, 8, none⟩ = some (.bool true)) (first | assumption | exact ⟨by assumption, by assumption, by assumption, by assumption⟩) (first
    | (go_at_call 69; refine (bits_lit _ B r5 _ _ _ (63 - k - q) (6) (by first | (rw [IntKind.wrap_u64, IntKind.wrap_i64]; omega) | (rw [IntKind.wrap_u64]; omega) | omega) rfl HA6.out.wr (by simp [Bt.nb_len]; omega) (by omega) (by omega)).mono ?_; rintro e w7 ⟨rfl, r7, hw7, hgr7, hn7⟩; have ha7 := HA6.out.put hw7 hgr7; obtain ⟨d0, d6, d7, d8⟩ := wn_cells ha7; have HA7 := Lib.hid ha7; have HG7 := Lib.hid (HG6.out.trans (Ga.ofGro hgr7) HN5.out); have HN7 := Lib.hid (HN5.out.trans (hn7.back HS6.out) HG5.out.size); clear ha7 hw7 hgr7 hn7)
    | (go_at_call 92; have tkm6 := tkb6; refine (many_any _ _ _ _ (by omega) (by omega)).mono ?_; rintro e w6 ⟨rfl, hb6⟩; have ha6 := (HA5.out.below (drew_b _)).below hb6; obtain ⟨d0, d6, d7, d8⟩ := wn_cells ha6; have HA6 := Lib.hid ha6; have HG6 := Lib.hid ((HG5.out.trans (Ga.ofBelow (drew_b _)) HN5.out).trans (Ga.ofBelow hb6) HN5.out); have HS6 := Lib.hid (show w5.heap.size ≤ w6.heap.size from hb6.size); clear ha6 hb6))
  have tkb8 := True.intro
  go_wp2_with fail
  go_region_held3 (fun w' => w'.cell? ⟨P, 0, none⟩ = some (.pointer (some ⟨B, 0, none⟩)) ∧ w'.cell? ⟨P, 6, none⟩ = some (.int .i64 (k : Int)) ∧ w'.cell? ⟨P, 7, none⟩ = some (.int .i64 (q : Int)) ∧ w'.cell? ⟨P, 8, none⟩ = some (.bool true)) (first | assumption | exact ⟨by assumption, by assumption, by assumption, by assumption⟩) (first
    | (go_at_call 69; refine (bits_lit _ B r7 _ _ _ (m) (64 - k - q) (by first | rfl | omega) (by omega) HA8.out.wr (by simp [Bt.nb_len]; omega) HML.out (by omega)).mono ?_; rintro e w9 ⟨rfl, r9, hw9, hgr9, hn9⟩; have ha9 := HA8.out.put hw9 hgr9; obtain ⟨d0, d6, d7, d8⟩ := wn_cells ha9; have HA9 := Lib.hid ha9; have HG9 := Lib.hid (HG8.out.trans (Ga.ofGro hgr9) HN7.out); have HN9 := Lib.hid (HN7.out.trans (hn9.back HS8.out) HG7.out.size); clear ha9 hw9 hgr9 hn9)
    | (go_at_call 92; have tkm8 := tkb8; refine (many_any _ _ _ _ (by omega) (by omega)).mono ?_; rintro e w8 ⟨rfl, hb8⟩; have ha8 := (HA7.out.below (drew_b _)).below hb8; obtain ⟨d0, d6, d7, d8⟩ := wn_cells ha8; have HA8 := Lib.hid ha8; have HG8 := Lib.hid ((HG7.out.trans (Ga.ofBelow (drew_b _)) HN7.out).trans (Ga.ofBelow hb8) HN7.out); have HS8 := Lib.hid (show w7.heap.size ≤ w8.heap.size from hb8.size); clear ha8 hb8))
  go_wp2
  go_end0
  exact ⟨rfl, r9, HA9.out, HG9.out, HN9.out⟩
set_option maxHeartbeats 2000000 in
set_option maxRecDepth 100000 in
theorem num_ul_b {w : World} {P B : Nat} {r : Option Nat} {L : List Bool} {f t : Int} {v step n : Nat} {a b : Nat} (h : Am w P B r L f t v step n (some (a, b))) (x k q m : Nat) (HK : ∀ w, Calls Tryz.prog 90 #[.int .u64 (x : Int)] w fun e w' => e = .returned (.int .i64 (k : Int)) ∧ w = w')
    (HQ : ∀ w, TabW w → Calls Tryz.prog 91 #[.int .u64 (x : Int)] w fun e w' => e = .returned (.int .i64 (q : Int)) ∧ w = w') (hk : (31 : Int) ≤ (k : Int)) (hkq : 31 + q ≤ 63) (fa : 31 < (a : Int)) (hm : (x : Int) / 2 ^ q = (m : Int)) (hml : m < 2 ^ (64 - 31 - q)) (h0 : 0 < x) (hx : x < 18446744073709551616) (hT : TabW w) (h1P : 1 ≠ P) (h1B : 1 ≠ B) (h1r : r ≠ some 1) (hL : L.length < 1099511000000) :
    Calls Tryz.prog 71 #[.pointer (some ⟨P, 0, none⟩), .int .u64 (x : Int)] w fun e w' => e = .returned (.tuple #[]) ∧ ∃ r', Am w' P B r' (L ++ [true] ++ [true] ++ Bt.nb 31 5 ++ Bt.nb (63 - 31 - q) 6 ++ Bt.nb m (64 - 31 - q)) f t v step n (some (31, q)) ∧ Ga P B r w w' ∧ Anew w r r' := by
  obtain ⟨c0, -, -, -, -, -, -, -, -, -⟩ := h.cells
  have g0 : ((x : Int) != 0) = true := by simp; omega
  have g1 : ((x : Int) == 0) = false := by simp; omega
  have HA1 := Lib.hid h
  have HKK := Lib.hid HK
  have HQQ := Lib.hid HQ
  have HT := Lib.hid hT
  have HML := Lib.hid (show m < 18446744073709551616 from Nat.lt_of_lt_of_le hml (Nat.pow_le_pow_right (i := 64 - 31 - q) (j := 64) (by decide) (by omega)))
  have hlb : 1 < w.heap.size := block_lt_of_cell (hT 0 (by omega))
  clear h hT HK HQ hml
  have tk1 := True.intro
  go_enter Tryz.func71, Tryz.ntmps71
  go_wp2_with (first
    | (go_at_call 91; refine Calls.mono (HQQ.out _ HT2.out) ?_; rintro e wz ⟨rfl, hw⟩; subst hw)
    | (go_at_call 90; refine Calls.mono (HKK.out _) ?_; rintro e wz ⟨rfl, hw⟩; subst hw)
    | (go_at_call 88; have tk3 := tk2; clear tk2; refine (bit_any _ B r1 _ true HA2.out.wr (by simp; omega)).mono ?_; rintro e w2 ⟨rfl, r2, hw2, hgr2, hn2⟩; have ha3 := HA2.out.put hw2 hgr2; obtain ⟨d0, d6, d7, d8⟩ := wn_cells ha3; obtain ⟨-, -, -, -, -, -, -, -, -, fz⟩ := ha3.cells; have HA3 := Lib.hid ha3; have HG3 := Lib.hid (HG2.out.trans (Ga.ofGro hgr2) HN2.out); have HN3 := Lib.hid (HN2.out.trans hn2 HG2.out.size); have ha4 := ha3.retop (w' := ((w2.setCell ⟨P, 6, none⟩ (.int .i64 (31 : Int))).setCell ⟨P, 7, none⟩ (.int .i64 (q : Int))).setCell ⟨P, 8, none⟩ (.bool true)) (f' := f) (t' := t) (v' := v) (step' := step) (n' := n) (win' := some (31, q)) (by rw [heap_setCell_same _ _ _ _ _ _ (heap_setCell_same _ _ _ _ _ _ (heap_setCell_same _ _ _ _ _ _ ha3.top))]; rfl) (fun k hk => ((heap_setCell_other _ _ _ _ hk).trans (heap_setCell_other _ _ _ _ hk)).trans (heap_setCell_other _ _ _ _ hk)); obtain ⟨y0, y6, y7, y8⟩ := wn_cells ha4; have HA4 := Lib.hid ha4; have HS4 := Lib.hid (show w2.heap.size ≤ (((w2.setCell ⟨P, 6, none⟩ (.int .i64 (31 : Int))).setCell ⟨P, 7, none⟩ (.int .i64 (q : Int))).setCell ⟨P, 8, none⟩ (.bool true)).heap.size by simp); have HG4 := Lib.hid (HG3.out.trans (Ga.set (P := P) (B := B) (r := r2) (w' := ((w2.setCell ⟨P, 6, none⟩ (.int .i64 (31 : Int))).setCell ⟨P, 7, none⟩ (.int .i64 (q : Int))).setCell ⟨P, 8, none⟩ (.bool true)) (fun k hk => ((heap_setCell_other _ _ _ _ hk).trans (heap_setCell_other _ _ _ _ hk)).trans (heap_setCell_other _ _ _ _ hk)) rfl rfl rfl (by simp)) HN3.out); clear ha4; clear ha3 hw2 hgr2 hn2)
    | (go_at_call 88; have tk2 := tk1; clear tk1; refine (bit_any _ B r L true HA1.out.wr (by omega)).mono ?_; rintro e w1 ⟨rfl, r1, hw1, hgr1, hn1⟩; have HT2 := Lib.hid (show TabW w1 from fun j hj => (World.cell?_of_block (a := ⟨1, j, none⟩) (hgr1.block 1 hlb h1B (fun e => h1r e.symm))).trans (HT.out j hj)); have ha2 := HA1.out.put hw1 hgr1; obtain ⟨d0, d6, d7, d8⟩ := wn_cells ha2; obtain ⟨-, -, -, -, -, -, -, -, -, fz⟩ := ha2.cells; have HA2 := Lib.hid ha2; have HG2 := Lib.hid (Ga.ofGro (P := P) hgr1); have HN2 := Lib.hid hn1; clear ha2 hw1 hgr1 hn1)
    | (go_at_call 69; have tk4 := tk3; clear tk3; refine (bits_lit _ B r2 _ _ _ 31 5 (by first | rfl | (rw [IntKind.wrap_u64]; omega)) rfl HA4.out.wr (by simp; omega) (by omega) (by decide)).mono ?_; rintro e w5 ⟨rfl, r5, hw5, hgr5, hn5⟩; have ha5 := HA4.out.put hw5 hgr5; obtain ⟨d0, d6, d7, d8⟩ := wn_cells ha5; have HA5 := Lib.hid ha5; have HG5 := Lib.hid (HG4.out.trans (Ga.ofGro hgr5) HN3.out); have HN5 := Lib.hid (HN3.out.trans (hn5.back HS4.out) HG3.out.size); clear ha5 hw5 hgr5 hn5))
  have tkb6 := True.intro
  go_region_held3 (fun w' => w'.cell? ⟨P, 0, none⟩ = some (.pointer (some ⟨B, 0, none⟩)) ∧ w'.cell? ⟨P, 6, none⟩ = some (.int .i64 (31 : Int)) ∧ w'.cell? ⟨P, 7, none⟩ = some (.int .i64 (q : Int)) ∧ w'.cell? ⟨P, 8, none⟩ = some (.bool true)) (first | assumption | exact ⟨by assumption, by assumption, by assumption, by assumption⟩) (first
    | (go_at_call 69; refine (bits_lit _ B r5 _ _ _ (63 - 31 - q) (6) (by first | (rw [IntKind.wrap_u64, IntKind.wrap_i64]; omega) | (rw [IntKind.wrap_u64]; omega) | omega) rfl HA6.out.wr (by simp [Bt.nb_len]; omega) (by omega) (by omega)).mono ?_; rintro e w7 ⟨rfl, r7, hw7, hgr7, hn7⟩; have ha7 := HA6.out.put hw7 hgr7; obtain ⟨d0, d6, d7, d8⟩ := wn_cells ha7; have HA7 := Lib.hid ha7; have HG7 := Lib.hid (HG6.out.trans (Ga.ofGro hgr7) HN5.out); have HN7 := Lib.hid (HN5.out.trans (hn7.back HS6.out) HG5.out.size); clear ha7 hw7 hgr7 hn7)
    | (go_at_call 92; have tkm6 := tkb6; refine (many_any _ _ _ _ (by omega) (by omega)).mono ?_; rintro e w6 ⟨rfl, hb6⟩; have ha6 := (HA5.out.below (drew_b _)).below hb6; obtain ⟨d0, d6, d7, d8⟩ := wn_cells ha6; have HA6 := Lib.hid ha6; have HG6 := Lib.hid ((HG5.out.trans (Ga.ofBelow (drew_b _)) HN5.out).trans (Ga.ofBelow hb6) HN5.out); have HS6 := Lib.hid (show w5.heap.size ≤ w6.heap.size from hb6.size); clear ha6 hb6))
  have tkb8 := True.intro
  go_wp2_with fail
  go_region_held3 (fun w' => w'.cell? ⟨P, 0, none⟩ = some (.pointer (some ⟨B, 0, none⟩)) ∧ w'.cell? ⟨P, 6, none⟩ = some (.int .i64 (31 : Int)) ∧ w'.cell? ⟨P, 7, none⟩ = some (.int .i64 (q : Int)) ∧ w'.cell? ⟨P, 8, none⟩ = some (.bool true)) (first | assumption | exact ⟨by assumption, by assumption, by assumption, by assumption⟩) (first
    | (go_at_call 69; refine (bits_lit _ B r7 _ _ _ (m) (64 - 31 - q) (by first | rfl | omega) (by omega) HA8.out.wr (by simp [Bt.nb_len]; omega) HML.out (by omega)).mono ?_; rintro e w9 ⟨rfl, r9, hw9, hgr9, hn9⟩; have ha9 := HA8.out.put hw9 hgr9; obtain ⟨d0, d6, d7, d8⟩ := wn_cells ha9; have HA9 := Lib.hid ha9; have HG9 := Lib.hid (HG8.out.trans (Ga.ofGro hgr9) HN7.out); have HN9 := Lib.hid (HN7.out.trans (hn9.back HS8.out) HG7.out.size); clear ha9 hw9 hgr9 hn9)
    | (go_at_call 92; have tkm8 := tkb8; refine (many_any _ _ _ _ (by omega) (by omega)).mono ?_; rintro e w8 ⟨rfl, hb8⟩; have ha8 := (HA7.out.below (drew_b _)).below hb8; obtain ⟨d0, d6, d7, d8⟩ := wn_cells ha8; have HA8 := Lib.hid ha8; have HG8 := Lib.hid ((HG7.out.trans (Ga.ofBelow (drew_b _)) HN7.out).trans (Ga.ofBelow hb8) HN7.out); have HS8 := Lib.hid (show w7.heap.size ≤ w8.heap.size from hb8.size); clear ha8 hb8))
  go_wp2
  go_end0
  exact ⟨rfl, r9, HA9.out, HG9.out, HN9.out⟩
set_option maxHeartbeats 2000000 in
set_option maxRecDepth 100000 in
theorem num_ur_a {w : World} {P B : Nat} {r : Option Nat} {L : List Bool} {f t : Int} {v step n : Nat} {a b : Nat} (h : Am w P B r L f t v step n (some (a, b))) (x k q m : Nat) (HK : ∀ w, Calls Tryz.prog 90 #[.int .u64 (x : Int)] w fun e w' => e = .returned (.int .i64 (k : Int)) ∧ w = w')
    (HQ : ∀ w, TabW w → Calls Tryz.prog 91 #[.int .u64 (x : Int)] w fun e w' => e = .returned (.int .i64 (q : Int)) ∧ w = w') (hk : (k : Int) < 31) (hkq : k + q ≤ 63) (fa : (a : Int) ≤ (k : Int)) (fb : (q : Int) < (b : Int)) (hm : (x : Int) / 2 ^ q = (m : Int)) (hml : m < 2 ^ (64 - k - q)) (h0 : 0 < x) (hx : x < 18446744073709551616) (hT : TabW w) (h1P : 1 ≠ P) (h1B : 1 ≠ B) (h1r : r ≠ some 1) (hL : L.length < 1099511000000) :
    Calls Tryz.prog 71 #[.pointer (some ⟨P, 0, none⟩), .int .u64 (x : Int)] w fun e w' => e = .returned (.tuple #[]) ∧ ∃ r', Am w' P B r' (L ++ [true] ++ [true] ++ Bt.nb k 5 ++ Bt.nb (63 - k - q) 6 ++ Bt.nb m (64 - k - q)) f t v step n (some (k, q)) ∧ Ga P B r w w' ∧ Anew w r r' := by
  obtain ⟨c0, -, -, -, -, -, -, -, -, -⟩ := h.cells
  have g0 : ((x : Int) != 0) = true := by simp; omega
  have g1 : ((x : Int) == 0) = false := by simp; omega
  have HA1 := Lib.hid h
  have HKK := Lib.hid HK
  have HQQ := Lib.hid HQ
  have HT := Lib.hid hT
  have HML := Lib.hid (show m < 18446744073709551616 from Nat.lt_of_lt_of_le hml (Nat.pow_le_pow_right (i := 64 - k - q) (j := 64) (by decide) (by omega)))
  have hlb : 1 < w.heap.size := block_lt_of_cell (hT 0 (by omega))
  clear h hT HK HQ hml
  have fbd : decide (b ≤ q) = false := decide_eq_false (by omega)
  have tk1 := True.intro
  go_enter Tryz.func71, Tryz.ntmps71
  go_wp2_with (first
    | (go_at_call 91; refine Calls.mono (HQQ.out _ HT2.out) ?_; rintro e wz ⟨rfl, hw⟩; subst hw)
    | (go_at_call 90; refine Calls.mono (HKK.out _) ?_; rintro e wz ⟨rfl, hw⟩; subst hw)
    | (go_at_call 88; have tk3 := tk2; clear tk2; refine (bit_any _ B r1 _ true HA2.out.wr (by simp; omega)).mono ?_; rintro e w2 ⟨rfl, r2, hw2, hgr2, hn2⟩; have ha3 := HA2.out.put hw2 hgr2; obtain ⟨d0, d6, d7, d8⟩ := wn_cells ha3; obtain ⟨-, -, -, -, -, -, -, -, -, fz⟩ := ha3.cells; have HA3 := Lib.hid ha3; have HG3 := Lib.hid (HG2.out.trans (Ga.ofGro hgr2) HN2.out); have HN3 := Lib.hid (HN2.out.trans hn2 HG2.out.size); have ha4 := ha3.retop (w' := ((w2.setCell ⟨P, 6, none⟩ (.int .i64 (k : Int))).setCell ⟨P, 7, none⟩ (.int .i64 (q : Int))).setCell ⟨P, 8, none⟩ (.bool true)) (f' := f) (t' := t) (v' := v) (step' := step) (n' := n) (win' := some (k, q)) (by rw [heap_setCell_same _ _ _ _ _ _ (heap_setCell_same _ _ _ _ _ _ (heap_setCell_same _ _ _ _ _ _ ha3.top))]; rfl) (fun k hk => ((heap_setCell_other _ _ _ _ hk).trans (heap_setCell_other _ _ _ _ hk)).trans (heap_setCell_other _ _ _ _ hk)); obtain ⟨y0, y6, y7, y8⟩ := wn_cells ha4; have HA4 := Lib.hid ha4; have HS4 := Lib.hid (show w2.heap.size ≤ (((w2.setCell ⟨P, 6, none⟩ (.int .i64 (k : Int))).setCell ⟨P, 7, none⟩ (.int .i64 (q : Int))).setCell ⟨P, 8, none⟩ (.bool true)).heap.size by simp); have HG4 := Lib.hid (HG3.out.trans (Ga.set (P := P) (B := B) (r := r2) (w' := ((w2.setCell ⟨P, 6, none⟩ (.int .i64 (k : Int))).setCell ⟨P, 7, none⟩ (.int .i64 (q : Int))).setCell ⟨P, 8, none⟩ (.bool true)) (fun k hk => ((heap_setCell_other _ _ _ _ hk).trans (heap_setCell_other _ _ _ _ hk)).trans (heap_setCell_other _ _ _ _ hk)) rfl rfl rfl (by simp)) HN3.out); clear ha4; clear ha3 hw2 hgr2 hn2)
    | (go_at_call 88; have tk2 := tk1; clear tk1; refine (bit_any _ B r L true HA1.out.wr (by omega)).mono ?_; rintro e w1 ⟨rfl, r1, hw1, hgr1, hn1⟩; have HT2 := Lib.hid (show TabW w1 from fun j hj => (World.cell?_of_block (a := ⟨1, j, none⟩) (hgr1.block 1 hlb h1B (fun e => h1r e.symm))).trans (HT.out j hj)); have ha2 := HA1.out.put hw1 hgr1; obtain ⟨d0, d6, d7, d8⟩ := wn_cells ha2; obtain ⟨-, -, -, -, -, -, -, -, -, fz⟩ := ha2.cells; have HA2 := Lib.hid ha2; have HG2 := Lib.hid (Ga.ofGro (P := P) hgr1); have HN2 := Lib.hid hn1; clear ha2 hw1 hgr1 hn1)
    | (go_at_call 69; have tk4 := tk3; clear tk3; refine (bits_lit _ B r2 _ _ _ k 5 (by first | rfl | (rw [IntKind.wrap_u64]; omega)) rfl HA4.out.wr (by simp; omega) (by omega) (by decide)).mono ?_; rintro e w5 ⟨rfl, r5, hw5, hgr5, hn5⟩; have ha5 := HA4.out.put hw5 hgr5; obtain ⟨d0, d6, d7, d8⟩ := wn_cells ha5; have HA5 := Lib.hid ha5; have HG5 := Lib.hid (HG4.out.trans (Ga.ofGro hgr5) HN3.out); have HN5 := Lib.hid (HN3.out.trans (hn5.back HS4.out) HG3.out.size); clear ha5 hw5 hgr5 hn5))
  have tkb6 := True.intro
  go_region_held3 (fun w' => w'.cell? ⟨P, 0, none⟩ = some (.pointer (some ⟨B, 0, none⟩)) ∧ w'.cell? ⟨P, 6, none⟩ = some (.int .i64 (k : Int)) ∧ w'.cell? ⟨P, 7, none⟩ = some (.int .i64 (q : Int)) ∧ w'.cell? ⟨P, 8, none⟩ = some (.bool true)) (first | assumption | exact ⟨by assumption, by assumption, by assumption, by assumption⟩) (first
    | (go_at_call 69; refine (bits_lit _ B r5 _ _ _ (63 - k - q) (6) (by first | (rw [IntKind.wrap_u64, IntKind.wrap_i64]; omega) | (rw [IntKind.wrap_u64]; omega) | omega) rfl HA6.out.wr (by simp [Bt.nb_len]; omega) (by omega) (by omega)).mono ?_; rintro e w7 ⟨rfl, r7, hw7, hgr7, hn7⟩; have ha7 := HA6.out.put hw7 hgr7; obtain ⟨d0, d6, d7, d8⟩ := wn_cells ha7; have HA7 := Lib.hid ha7; have HG7 := Lib.hid (HG6.out.trans (Ga.ofGro hgr7) HN5.out); have HN7 := Lib.hid (HN5.out.trans (hn7.back HS6.out) HG5.out.size); clear ha7 hw7 hgr7 hn7)
    | (go_at_call 92; have tkm6 := tkb6; refine (many_any _ _ _ _ (by omega) (by omega)).mono ?_; rintro e w6 ⟨rfl, hb6⟩; have ha6 := (HA5.out.below (drew_b _)).below hb6; obtain ⟨d0, d6, d7, d8⟩ := wn_cells ha6; have HA6 := Lib.hid ha6; have HG6 := Lib.hid ((HG5.out.trans (Ga.ofBelow (drew_b _)) HN5.out).trans (Ga.ofBelow hb6) HN5.out); have HS6 := Lib.hid (show w5.heap.size ≤ w6.heap.size from hb6.size); clear ha6 hb6))
  have tkb8 := True.intro
  go_wp2_with fail
  go_region_held3 (fun w' => w'.cell? ⟨P, 0, none⟩ = some (.pointer (some ⟨B, 0, none⟩)) ∧ w'.cell? ⟨P, 6, none⟩ = some (.int .i64 (k : Int)) ∧ w'.cell? ⟨P, 7, none⟩ = some (.int .i64 (q : Int)) ∧ w'.cell? ⟨P, 8, none⟩ = some (.bool true)) (first | assumption | exact ⟨by assumption, by assumption, by assumption, by assumption⟩) (first
    | (go_at_call 69; refine (bits_lit _ B r7 _ _ _ (m) (64 - k - q) (by first | rfl | omega) (by omega) HA8.out.wr (by simp [Bt.nb_len]; omega) HML.out (by omega)).mono ?_; rintro e w9 ⟨rfl, r9, hw9, hgr9, hn9⟩; have ha9 := HA8.out.put hw9 hgr9; obtain ⟨d0, d6, d7, d8⟩ := wn_cells ha9; have HA9 := Lib.hid ha9; have HG9 := Lib.hid (HG8.out.trans (Ga.ofGro hgr9) HN7.out); have HN9 := Lib.hid (HN7.out.trans (hn9.back HS8.out) HG7.out.size); clear ha9 hw9 hgr9 hn9)
    | (go_at_call 92; have tkm8 := tkb8; refine (many_any _ _ _ _ (by omega) (by omega)).mono ?_; rintro e w8 ⟨rfl, hb8⟩; have ha8 := (HA7.out.below (drew_b _)).below hb8; obtain ⟨d0, d6, d7, d8⟩ := wn_cells ha8; have HA8 := Lib.hid ha8; have HG8 := Lib.hid ((HG7.out.trans (Ga.ofBelow (drew_b _)) HN7.out).trans (Ga.ofBelow hb8) HN7.out); have HS8 := Lib.hid (show w7.heap.size ≤ w8.heap.size from hb8.size); clear ha8 hb8))
  go_wp2
  go_end0
  exact ⟨rfl, r9, HA9.out, HG9.out, HN9.out⟩
set_option maxHeartbeats 2000000 in
set_option maxRecDepth 100000 in
theorem num_ur_b {w : World} {P B : Nat} {r : Option Nat} {L : List Bool} {f t : Int} {v step n : Nat} {a b : Nat} (h : Am w P B r L f t v step n (some (a, b))) (x k q m : Nat) (HK : ∀ w, Calls Tryz.prog 90 #[.int .u64 (x : Int)] w fun e w' => e = .returned (.int .i64 (k : Int)) ∧ w = w')
    (HQ : ∀ w, TabW w → Calls Tryz.prog 91 #[.int .u64 (x : Int)] w fun e w' => e = .returned (.int .i64 (q : Int)) ∧ w = w') (hk : (31 : Int) ≤ (k : Int)) (hkq : 31 + q ≤ 63) (fa : (a : Int) ≤ 31) (fb : (q : Int) < (b : Int)) (hm : (x : Int) / 2 ^ q = (m : Int)) (hml : m < 2 ^ (64 - 31 - q)) (h0 : 0 < x) (hx : x < 18446744073709551616) (hT : TabW w) (h1P : 1 ≠ P) (h1B : 1 ≠ B) (h1r : r ≠ some 1) (hL : L.length < 1099511000000) :
    Calls Tryz.prog 71 #[.pointer (some ⟨P, 0, none⟩), .int .u64 (x : Int)] w fun e w' => e = .returned (.tuple #[]) ∧ ∃ r', Am w' P B r' (L ++ [true] ++ [true] ++ Bt.nb 31 5 ++ Bt.nb (63 - 31 - q) 6 ++ Bt.nb m (64 - 31 - q)) f t v step n (some (31, q)) ∧ Ga P B r w w' ∧ Anew w r r' := by
  obtain ⟨c0, -, -, -, -, -, -, -, -, -⟩ := h.cells
  have g0 : ((x : Int) != 0) = true := by simp; omega
  have g1 : ((x : Int) == 0) = false := by simp; omega
  have HA1 := Lib.hid h
  have HKK := Lib.hid HK
  have HQQ := Lib.hid HQ
  have HT := Lib.hid hT
  have HML := Lib.hid (show m < 18446744073709551616 from Nat.lt_of_lt_of_le hml (Nat.pow_le_pow_right (i := 64 - 31 - q) (j := 64) (by decide) (by omega)))
  have hlb : 1 < w.heap.size := block_lt_of_cell (hT 0 (by omega))
  clear h hT HK HQ hml
  have fbd : decide (b ≤ q) = false := decide_eq_false (by omega)
  have tk1 := True.intro
  go_enter Tryz.func71, Tryz.ntmps71
  go_wp2_with (first
    | (go_at_call 91; refine Calls.mono (HQQ.out _ HT2.out) ?_; rintro e wz ⟨rfl, hw⟩; subst hw)
    | (go_at_call 90; refine Calls.mono (HKK.out _) ?_; rintro e wz ⟨rfl, hw⟩; subst hw)
    | (go_at_call 88; have tk3 := tk2; clear tk2; refine (bit_any _ B r1 _ true HA2.out.wr (by simp; omega)).mono ?_; rintro e w2 ⟨rfl, r2, hw2, hgr2, hn2⟩; have ha3 := HA2.out.put hw2 hgr2; obtain ⟨d0, d6, d7, d8⟩ := wn_cells ha3; obtain ⟨-, -, -, -, -, -, -, -, -, fz⟩ := ha3.cells; have HA3 := Lib.hid ha3; have HG3 := Lib.hid (HG2.out.trans (Ga.ofGro hgr2) HN2.out); have HN3 := Lib.hid (HN2.out.trans hn2 HG2.out.size); have ha4 := ha3.retop (w' := ((w2.setCell ⟨P, 6, none⟩ (.int .i64 (31 : Int))).setCell ⟨P, 7, none⟩ (.int .i64 (q : Int))).setCell ⟨P, 8, none⟩ (.bool true)) (f' := f) (t' := t) (v' := v) (step' := step) (n' := n) (win' := some (31, q)) (by rw [heap_setCell_same _ _ _ _ _ _ (heap_setCell_same _ _ _ _ _ _ (heap_setCell_same _ _ _ _ _ _ ha3.top))]; rfl) (fun k hk => ((heap_setCell_other _ _ _ _ hk).trans (heap_setCell_other _ _ _ _ hk)).trans (heap_setCell_other _ _ _ _ hk)); obtain ⟨y0, y6, y7, y8⟩ := wn_cells ha4; have HA4 := Lib.hid ha4; have HS4 := Lib.hid (show w2.heap.size ≤ (((w2.setCell ⟨P, 6, none⟩ (.int .i64 (31 : Int))).setCell ⟨P, 7, none⟩ (.int .i64 (q : Int))).setCell ⟨P, 8, none⟩ (.bool true)).heap.size by simp); have HG4 := Lib.hid (HG3.out.trans (Ga.set (P := P) (B := B) (r := r2) (w' := ((w2.setCell ⟨P, 6, none⟩ (.int .i64 (31 : Int))).setCell ⟨P, 7, none⟩ (.int .i64 (q : Int))).setCell ⟨P, 8, none⟩ (.bool true)) (fun k hk => ((heap_setCell_other _ _ _ _ hk).trans (heap_setCell_other _ _ _ _ hk)).trans (heap_setCell_other _ _ _ _ hk)) rfl rfl rfl (by simp)) HN3.out); clear ha4; clear ha3 hw2 hgr2 hn2)
    | (go_at_call 88; have tk2 := tk1; clear tk1; refine (bit_any _ B r L true HA1.out.wr (by omega)).mono ?_; rintro e w1 ⟨rfl, r1, hw1, hgr1, hn1⟩; have HT2 := Lib.hid (show TabW w1 from fun j hj => (World.cell?_of_block (a := ⟨1, j, none⟩) (hgr1.block 1 hlb h1B (fun e => h1r e.symm))).trans (HT.out j hj)); have ha2 := HA1.out.put hw1 hgr1; obtain ⟨d0, d6, d7, d8⟩ := wn_cells ha2; obtain ⟨-, -, -, -, -, -, -, -, -, fz⟩ := ha2.cells; have HA2 := Lib.hid ha2; have HG2 := Lib.hid (Ga.ofGro (P := P) hgr1); have HN2 := Lib.hid hn1; clear ha2 hw1 hgr1 hn1)
    | (go_at_call 69; have tk4 := tk3; clear tk3; refine (bits_lit _ B r2 _ _ _ 31 5 (by first | rfl | (rw [IntKind.wrap_u64]; omega)) rfl HA4.out.wr (by simp; omega) (by omega) (by decide)).mono ?_; rintro e w5 ⟨rfl, r5, hw5, hgr5, hn5⟩; have ha5 := HA4.out.put hw5 hgr5; obtain ⟨d0, d6, d7, d8⟩ := wn_cells ha5; have HA5 := Lib.hid ha5; have HG5 := Lib.hid (HG4.out.trans (Ga.ofGro hgr5) HN3.out); have HN5 := Lib.hid (HN3.out.trans (hn5.back HS4.out) HG3.out.size); clear ha5 hw5 hgr5 hn5))
  have tkb6 := True.intro
  go_region_held3 (fun w' => w'.cell? ⟨P, 0, none⟩ = some (.pointer (some ⟨B, 0, none⟩)) ∧ w'.cell? ⟨P, 6, none⟩ = some (.int .i64 (31 : Int)) ∧ w'.cell? ⟨P, 7, none⟩ = some (.int .i64 (q : Int)) ∧ w'.cell? ⟨P, 8, none⟩ = some (.bool true)) (first | assumption | exact ⟨by assumption, by assumption, by assumption, by assumption⟩) (first
    | (go_at_call 69; refine (bits_lit _ B r5 _ _ _ (63 - 31 - q) (6) (by first | (rw [IntKind.wrap_u64, IntKind.wrap_i64]; omega) | (rw [IntKind.wrap_u64]; omega) | omega) rfl HA6.out.wr (by simp [Bt.nb_len]; omega) (by omega) (by omega)).mono ?_; rintro e w7 ⟨rfl, r7, hw7, hgr7, hn7⟩; have ha7 := HA6.out.put hw7 hgr7; obtain ⟨d0, d6, d7, d8⟩ := wn_cells ha7; have HA7 := Lib.hid ha7; have HG7 := Lib.hid (HG6.out.trans (Ga.ofGro hgr7) HN5.out); have HN7 := Lib.hid (HN5.out.trans (hn7.back HS6.out) HG5.out.size); clear ha7 hw7 hgr7 hn7)
    | (go_at_call 92; have tkm6 := tkb6; refine (many_any _ _ _ _ (by omega) (by omega)).mono ?_; rintro e w6 ⟨rfl, hb6⟩; have ha6 := (HA5.out.below (drew_b _)).below hb6; obtain ⟨d0, d6, d7, d8⟩ := wn_cells ha6; have HA6 := Lib.hid ha6; have HG6 := Lib.hid ((HG5.out.trans (Ga.ofBelow (drew_b _)) HN5.out).trans (Ga.ofBelow hb6) HN5.out); have HS6 := Lib.hid (show w5.heap.size ≤ w6.heap.size from hb6.size); clear ha6 hb6))
  have tkb8 := True.intro
  go_wp2_with fail
  go_region_held3 (fun w' => w'.cell? ⟨P, 0, none⟩ = some (.pointer (some ⟨B, 0, none⟩)) ∧ w'.cell? ⟨P, 6, none⟩ = some (.int .i64 (31 : Int)) ∧ w'.cell? ⟨P, 7, none⟩ = some (.int .i64 (q : Int)) ∧ w'.cell? ⟨P, 8, none⟩ = some (.bool true)) (first | assumption | exact ⟨by assumption, by assumption, by assumption, by assumption⟩) (first
    | (go_at_call 69; refine (bits_lit _ B r7 _ _ _ (m) (64 - 31 - q) (by first | rfl | omega) (by omega) HA8.out.wr (by simp [Bt.nb_len]; omega) HML.out (by omega)).mono ?_; rintro e w9 ⟨rfl, r9, hw9, hgr9, hn9⟩; have ha9 := HA8.out.put hw9 hgr9; obtain ⟨d0, d6, d7, d8⟩ := wn_cells ha9; have HA9 := Lib.hid ha9; have HG9 := Lib.hid (HG8.out.trans (Ga.ofGro hgr9) HN7.out); have HN9 := Lib.hid (HN7.out.trans (hn9.back HS8.out) HG7.out.size); clear ha9 hw9 hgr9 hn9)
    | (go_at_call 92; have tkm8 := tkb8; refine (many_any _ _ _ _ (by omega) (by omega)).mono ?_; rintro e w8 ⟨rfl, hb8⟩; have ha8 := (HA7.out.below (drew_b _)).below hb8; obtain ⟨d0, d6, d7, d8⟩ := wn_cells ha8; have HA8 := Lib.hid ha8; have HG8 := Lib.hid ((HG7.out.trans (Ga.ofBelow (drew_b _)) HN7.out).trans (Ga.ofBelow hb8) HN7.out); have HS8 := Lib.hid (show w7.heap.size ≤ w8.heap.size from hb8.size); clear ha8 hb8))
  go_wp2
  go_end0
  exact ⟨rfl, r9, HA9.out, HG9.out, HN9.out⟩
end Go.Proofs.YtepjpdhmjchakaaGreatDoor
