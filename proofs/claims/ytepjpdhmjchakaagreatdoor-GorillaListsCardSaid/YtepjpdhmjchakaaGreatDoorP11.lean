import Derived.Test.YtepjpdhmjchakaaGreatDoorP10
import Derived.Deep.QuietTactic
import Derived.BigQuiet
import Derived.Laws.Bits64
/- An appender: Append. -/
namespace Go.Proofs.YtepjpdhmjchakaaGreatDoor
open Go.RowKit
set_option linter.unusedVariables false

/-- A sample as a value. -/
def smV (s : Gz.Smp) : Value := .agg #[.int .i64 s.t, .int .u64 (s.v : Int)]
/-- An appender that has a. -/
def Apm (w : World) (P B : Nat) (r : Option Nat) (a : Gz.Ap) : Prop := Am w P B r a.L a.first a.t a.v a.step a.n a.win

set_option maxHeartbeats 1000000 in
set_option maxRecDepth 100000 in
theorem app_range {w : World} {P B : Nat} {r : Option Nat} {a : Gz.Ap} (h : Apm w P B r a) (s : Gz.Smp) (hs : s.t < -Gz.far ∨ Gz.far < s.t) :
    Calls Tryz.prog 24 #[.pointer (some ⟨P, 0, none⟩), smV s] w fun e w' => e = .returned (.int .u16 2) ∧ Below w.heap.size w w' := by
  have e1 : decide (-Gz.far ≤ s.t ∧ s.t ≤ Gz.far) = false := decide_eq_false (fun h => by omega)
  have HE := Lib.hid e1
  clear h hs e1
  unfold smV
  go_enter Tryz.func24, Tryz.ntmps24
  go_wp2_with (go_at_call 21; refine (within_any _ s.t).mono ?_; rintro e wz ⟨rfl, hw⟩; rw [HE.out]; subst hw)
  go_ret
  exact ⟨rfl, (Below.refl _ _).alloc (Nat.le_refl _) _⟩

set_option maxHeartbeats 1000000 in
set_option maxRecDepth 100000 in
theorem app_order {w : World} {P B : Nat} {r : Option Nat} {a : Gz.Ap} (h : Apm w P B r a) (s : Gz.Smp) (hs : ¬ (s.t < -Gz.far ∨ Gz.far < s.t)) (hn : 0 < a.n) (ho : s.t ≤ a.t) :
    Calls Tryz.prog 24 #[.pointer (some ⟨P, 0, none⟩), smV s] w fun e w' => e = .returned (.int .u16 100) ∧ Below w.heap.size w w' := by
  have e1 : decide (-Gz.far ≤ s.t ∧ s.t ≤ Gz.far) = true := decide_eq_true (by omega)
  have HE := Lib.hid e1
  have ha := h.below ((Below.refl _ _).alloc (Nat.le_refl _) (.cells #[.int .i64 s.t, .int .u64 (s.v : Int)] 79))
  obtain ⟨-, -, c2, -, -, c5, -, -, -, -⟩ := ha.cells
  have gn : decide (0 < (a.n : Int)) = true := decide_eq_true (by omega)
  have gt : decide (s.t ≤ a.t) = true := decide_eq_true ho
  clear h hs e1 ha
  unfold smV
  go_enter Tryz.func24, Tryz.ntmps24
  go_wp2_with (go_at_call 21; refine (within_any _ s.t).mono ?_; rintro e wz ⟨rfl, hw⟩; rw [HE.out]; subst hw)
  go_quiet (fail)
  go_wp2
  go_ret
  exact ⟨rfl, ((Below.refl _ _).alloc (Nat.le_refl _) _).trans ((drewN_b _ _).mono (by simp))⟩

set_option maxHeartbeats 1000000 in
set_option maxRecDepth 100000 in
theorem app_many {w : World} {P B : Nat} {r : Option Nat} {a : Gz.Ap} (h : Apm w P B r a) (s : Gz.Smp) (hs : ¬ (s.t < -Gz.far ∨ Gz.far < s.t)) (ho : a.t < s.t) (hn : a.n = 120) :
    Calls Tryz.prog 24 #[.pointer (some ⟨P, 0, none⟩), smV s] w fun e w' => e = .returned (.int .u16 102) ∧ Below w.heap.size w w' := by
  have e1 : decide (-Gz.far ≤ s.t ∧ s.t ≤ Gz.far) = true := decide_eq_true (by omega)
  have HE := Lib.hid e1
  have ha := h.below ((Below.refl _ _).alloc (Nat.le_refl _) (.cells #[.int .i64 s.t, .int .u64 (s.v : Int)] 79))
  obtain ⟨-, -, c2, -, -, c5, -, -, -, -⟩ := ha.cells
  rw [hn] at c5
  have c5 : (w.alloc (.cells #[.int .i64 s.t, .int .u64 (s.v : Int)] 79)).cell? ⟨P, 5, none⟩ = some (.int .i64 120) := c5
  have gt : decide (s.t ≤ a.t) = false := decide_eq_false (by omega)
  clear h hs e1 ha hn ho
  unfold smV
  go_enter Tryz.func24, Tryz.ntmps24
  go_wp2_with (go_at_call 21; refine (within_any _ s.t).mono ?_; rintro e wz ⟨rfl, hw⟩; rw [HE.out]; subst hw)
  go_quiet (fail)
  go_wp2
  go_ret
  exact ⟨rfl, ((Below.refl _ _).alloc (Nat.le_refl _) _).trans ((drewN_b _ _).mono (by simp))⟩

theorem box2 {W : World} {q : Nat} {x0 x1 : Value} (h : W.heap[q]? = some (.cells #[x0, x1] 79 (0, 0))) : W.cell? ⟨q, 0, none⟩ = some x0 ∧ W.cell? ⟨q, 1, none⟩ = some x1 :=
  ⟨(cell_of_row _ _ _ _ _ _ h).trans rfl, (cell_of_row _ _ _ _ _ _ h).trans rfl⟩
/-- The last cells are written. -/
theorem Am.last {W : World} {P B : Nat} {r : Option Nat} {L : List Bool} {f t t' : Int} {v v' step n n' : Nat} {win : Option (Nat × Nat)} (h : Am W P B r L f t v step n win) :
    Am (((W.setCell ⟨P, 2, none⟩ (.int .i64 t')).setCell ⟨P, 3, none⟩ (.int .u64 (v' : Int))).setCell ⟨P, 5, none⟩ (.int .i64 (n' : Int))) P B r L f t' v' step n' win ∧
    Ga P B r W (((W.setCell ⟨P, 2, none⟩ (.int .i64 t')).setCell ⟨P, 3, none⟩ (.int .u64 (v' : Int))).setCell ⟨P, 5, none⟩ (.int .i64 (n' : Int))) := by
  have ho : ∀ k, k ≠ P → (((W.setCell ⟨P, 2, none⟩ (.int .i64 t')).setCell ⟨P, 3, none⟩ (.int .u64 (v' : Int))).setCell ⟨P, 5, none⟩ (.int .i64 (n' : Int))).heap[k]? = W.heap[k]? := fun k hk => ((heap_setCell_other _ _ _ _ hk).trans (heap_setCell_other _ _ _ _ hk)).trans (heap_setCell_other _ _ _ _ hk)
  exact ⟨h.retop (by rw [heap_setCell_same _ _ _ _ _ _ (heap_setCell_same _ _ _ _ _ _ (heap_setCell_same _ _ _ _ _ _ h.top))]; rfl) ho, Ga.set ho rfl rfl rfl (by simp)⟩

theorem vb_len' (t : Int) (h1 : -9223372036854775808 ≤ t) (h2 : t ≤ 9223372036854775807) : (Bt.vb (zz t)).length ≤ 80 := (Bt.vb_le _ (zz_lt t h1 h2)).1
set_option maxHeartbeats 2000000 in
set_option maxRecDepth 100000 in
theorem app_first {w : World} {P B : Nat} {r : Option Nat} {a : Gz.Ap} (h : Apm w P B r a) (s : Gz.Smp) (hs : ¬ (s.t < -Gz.far ∨ Gz.far < s.t)) (hv : s.v < 18446744073709551616) (hn : a.n = 0) (hL : a.L.length < 1099511000000) :
    Calls Tryz.prog 24 #[.pointer (some ⟨P, 0, none⟩), smV s] w fun e w' => e = .returned (.int .u16 0) ∧ ∃ r', Apm w' P B r' (a.add s) ∧ Ga P B r w w' ∧ Anew w r r' := by
  have e1 : decide (-Gz.far ≤ s.t ∧ s.t ≤ Gz.far) = true := decide_eq_true (by omega)
  have HE := Lib.hid e1
  have hb0 : Below w.heap.size w (w.alloc (.cells #[.int .i64 s.t, .int .u64 (s.v : Int)] 79)) := (Below.refl _ _).alloc (Nat.le_refl _) _
  have ha := h.below hb0
  have hbx := heap_alloc_new w (.cells #[.int .i64 s.t, .int .u64 (s.v : Int)] 79)
  obtain ⟨c0, -, c2, -, -, c5, -, -, -, -⟩ := ha.cells
  have hlt := h.lts
  have hb : -9223372036854775808 ≤ s.t ∧ s.t ≤ 9223372036854775807 := by unfold Gz.far at hs; omega
  rw [hn] at c5
  have c5 : (w.alloc (.cells #[.int .i64 s.t, .int .u64 (s.v : Int)] 79)).cell? ⟨P, 5, none⟩ = some (.int .i64 0) := c5
  have HA0 := Lib.hid ha
  have HB0 := Lib.hid hb0
  have HBX0 := Lib.hid hbx
  have HLT := Lib.hid hlt
  have hadd : a.add s = { a with L := a.L ++ Bt.vb (zz s.t) ++ Bt.nb s.v 64, first := s.t, t := s.t, v := s.v, n := 1 } := by unfold Gz.Ap.add; rw [if_pos hn]
  rw [hadd]
  clear h hs e1 ha hbx hb0 hlt hadd
  unfold smV
  go_enter Tryz.func24, Tryz.ntmps24
  go_wp2_with (go_at_call 21; refine (within_any _ s.t).mono ?_; rintro e wz ⟨rfl, hw⟩; rw [HE.out]; subst hw)
  go_quiet (fail)
  have ha1 := HA0.out.below (drewN_b _ nq)
  have hbx1 : (World.drewN (w.alloc (.cells #[.int .i64 s.t, .int .u64 (s.v : Int)] 79)) nq).heap[w.heap.size]? = some (.cells #[.int .i64 s.t, .int .u64 (s.v : Int)] 79 (0, 0)) := HBX0.out
  have HB1 := Lib.hid (HB0.out.trans ((drewN_b _ nq).mono (show w.heap.size ≤ (w.alloc (.cells #[.int .i64 s.t, .int .u64 (s.v : Int)] 79)).heap.size by simp)))
  have HA1 := Lib.hid ha1
  have HBX1 := Lib.hid hbx1
  obtain ⟨b0, b1⟩ := box2 hbx1
  obtain ⟨c0, -, -, -, -, c5, -, -, -, -⟩ := ha1.cells
  rw [hn] at c5
  have c5 : (World.drewN (w.alloc (.cells #[.int .i64 s.t, .int .u64 (s.v : Int)] 79)) nq).cell? ⟨P, 5, none⟩ = some (.int .i64 0) := c5
  clear ha1 hbx1
  go_wp2
  go_region_held3 (fun w' => w'.cell? ⟨P, 0, none⟩ = some (.pointer (some ⟨B, 0, none⟩)) ∧ w'.cell? ⟨w.heap.size, 0, none⟩ = some (.int .i64 s.t)) (first | assumption | exact ⟨by assumption, by assumption⟩ | exact ⟨c0, b0⟩) (first | (go_at_call 68; refine (signed_any _ B r a.L s.t (HA1.out.below (drew_b _)).wr (by omega) hb.1 hb.2).mono ?_; rintro e w2 ⟨rfl, r2, hw2, hgr2, hn2⟩; have ha2 := (HA1.out.below (drew_b _)).put hw2 hgr2; have hbx2 := (hgr2.block w.heap.size (heap_lt HBX1.out) (by have := HLT.out.2.1; omega) (fun e => by have := HLT.out.2.2 _ e.symm; omega)).trans HBX1.out; obtain ⟨c0, -, -, -, -, c5, -, -, -, fz⟩ := ha2.cells; rw [hn] at c5; have c5 : w2.cell? ⟨P, 5, none⟩ = some (.int .i64 0) := c5; obtain ⟨b0, b1⟩ := box2 hbx2; have HR2 := Lib.hid (show ∀ k, r2 = some k → k ≠ w.heap.size from fun k hk e => by rcases hn2 k hk with h6 | h6; exact (by have := HLT.out.2.2 _ h6; omega); have h7 : (w.alloc (.cells #[.int .i64 s.t, .int .u64 (s.v : Int)] 79)).heap.size ≤ k := h6; simp at h7; omega); have HA2 := Lib.hid ha2; have HBX2 := Lib.hid hbx2; have HG2 := Lib.hid (((Ga.ofBelow HB1.out).trans (Ga.ofBelow (drew_b _)) (Anew.refl _ _)).trans (Ga.ofGro (P := P) hgr2) (Anew.refl _ _)); have HN2 := Lib.hid (hn2.back HB1.out.size); clear ha2 hbx2 hw2 hgr2 hn2))
  go_wp2_with fail
  go_region_held3 (fun w' => w'.cell? ⟨P, 0, none⟩ = some (.pointer (some ⟨B, 0, none⟩)) ∧ w'.cell? ⟨w.heap.size, 1, none⟩ = some (.int .u64 (s.v : Int))) (first | assumption | exact ⟨by assumption, by assumption⟩ | exact ⟨c0, b1⟩) (first | (go_at_call 69; refine (bits_lit _ B r2 _ _ _ s.v 64 rfl rfl (HA2.out.below (drew_b _)).wr (by have := (vb_len' s.t hb.1 hb.2); simp; omega) hv (by decide)).mono ?_; rintro e w3 ⟨rfl, r3, hw3, hgr3, hn3⟩; have ha3 := (HA2.out.below (drew_b _)).put hw3 hgr3; have hlt2 := HA2.out.lts; have hbx3 := (hgr3.block w.heap.size (heap_lt HBX2.out) (by have := HLT.out.2.1; omega) (fun e => by rcases HN2.out _ e.symm with h6 | h6; exact (by have := HLT.out.2.2 _ h6; omega); exact absurd rfl (HR2.out w.heap.size e.symm))).trans HBX2.out; obtain ⟨c0, c1, c2, c3, -, c5, -, -, -, fz⟩ := ha3.cells; rw [hn] at c5; have c5 : w3.cell? ⟨P, 5, none⟩ = some (.int .i64 0) := c5; obtain ⟨b0, b1⟩ := box2 hbx3; have HA3 := Lib.hid ha3; have HBX3 := Lib.hid hbx3; have HG3 := Lib.hid ((HG2.out.trans (Ga.ofBelow (drew_b _)) HN2.out).trans (Ga.ofGro (P := P) hgr3) HN2.out); have HN3 := Lib.hid (HN2.out.trans hn3 HG2.out.size); clear ha3 hbx3 hw3 hgr3 hn3 hlt2))
  go_wp2_with fail
  have ho4 : ∀ k, k ≠ P → (w3.setCell ⟨P, 1, none⟩ (.int .i64 s.t)).heap[k]? = w3.heap[k]? := fun k hk => heap_setCell_other _ _ _ _ hk
  have ha4 := HA3.out.retop (w' := w3.setCell ⟨P, 1, none⟩ (.int .i64 s.t)) (f' := s.t) (t' := a.t) (v' := a.v) (step' := a.step) (n' := a.n) (win' := a.win) (by rw [heap_setCell_same _ _ _ _ _ _ HA3.out.top]; rfl) ho4
  have hg4 : Ga P B r3 w3 (w3.setCell ⟨P, 1, none⟩ (.int .i64 s.t)) := Ga.set ho4 rfl rfl rfl (by simp)
  have hbx4 := (ho4 w.heap.size (by have := HLT.out.1; omega)).trans HBX3.out
  obtain ⟨c0, c1, c2, c3, -, c5, -, -, -, fz⟩ := ha4.cells
  rw [hn] at c5
  have c5 : (w3.setCell ⟨P, 1, none⟩ (.int .i64 s.t)).cell? ⟨P, 5, none⟩ = some (.int .i64 0) := c5
  obtain ⟨b0, b1⟩ := box2 hbx4
  have HA4 := Lib.hid ha4
  have HG4 := Lib.hid (HG3.out.trans hg4 HN3.out)
  clear ha4 hg4 hbx4 ho4
  generalize w3.setCell ⟨P, 1, none⟩ (.int .i64 s.t) = W4 at *
  go_region
  go_wp2
  go_ret
  have l := (HA4.out.below (drew_b W4)).last (t' := s.t) (v' := s.v) (n' := 1)
  exact ⟨rfl, r3, l.1, (HG4.out.trans (Ga.ofBelow (drew_b _)) HN3.out).trans l.2 HN3.out, HN3.out⟩

set_option maxHeartbeats 2000000 in
set_option maxRecDepth 100000 in
theorem app_next {w : World} {P B : Nat} {r : Option Nat} {a : Gz.Ap} (h : Apm w P B r a) (hok : a.ok) (s : Gz.Smp) (hs : ¬ (s.t < -Gz.far ∨ Gz.far < s.t)) (hv : s.v < 18446744073709551616) (ho : a.t < s.t) (hn : 0 < a.n) (hn2 : a.n ≠ 120) (hT : TabW w) (h1P : 1 ≠ P) (h1B : 1 ≠ B) (h1r : r ≠ some 1) :
    Calls Tryz.prog 24 #[.pointer (some ⟨P, 0, none⟩), smV s] w fun e w' => e = .returned (.int .u16 0) ∧ ∃ r', Apm w' P B r' (a.add s) ∧ Ga P B r w w' ∧ Anew w r r' := by
  have e1 : decide (-Gz.far ≤ s.t ∧ s.t ≤ Gz.far) = true := decide_eq_true (by omega)
  have HE := Lib.hid e1
  have hb0 : Below w.heap.size w (w.alloc (.cells #[.int .i64 s.t, .int .u64 (s.v : Int)] 79)) := (Below.refl _ _).alloc (Nat.le_refl _) _
  have ha := h.below hb0
  have hbx := heap_alloc_new w (.cells #[.int .i64 s.t, .int .u64 (s.v : Int)] 79)
  obtain ⟨-, -, c2, -, -, c5, -, -, -, -⟩ := ha.cells
  have hlt := h.lts
  have hlb : 1 < w.heap.size := block_lt_of_cell (hT 0 (by omega))
  have gn : decide (0 < (a.n : Int)) = true := decide_eq_true (by omega)
  have gt : decide (s.t ≤ a.t) = false := decide_eq_false (by omega)
  have gm : ((a.n : Int) == 120) = false := by simp; omega
  have gz : ((a.n : Int) == 0) = false := by simp; omega
  obtain ⟨stp, hstp⟩ : ∃ stp : Nat, (s.t - a.t).toNat = stp := ⟨_, rfl⟩
  have ht := hok.t
  have hst : IntKind.u64.wrap (IntKind.u64.wrap s.t - IntKind.u64.wrap a.t) = (stp : Int) := by rw [IntKind.wrap_u64, IntKind.wrap_u64, IntKind.wrap_u64]; unfold Gz.far at hs ht; omega
  have hsl : stp ≤ 18014398509481984 := by unfold Gz.far at hs ht; omega
  have hx : bits .xor .u64 (s.v : Int) (a.v : Int) = ((s.v ^^^ a.v : Nat) : Int) := bits_xor_u64_nat _ _ hv hok.v
  have hxl := Gz.xor_lt hv hok.v
  have hL : a.L.length ≤ 24000 := by have := hok.len; have := hok.n; omega
  have hstep := hok.step
  have hnl := hok.n
  have HA0 := Lib.hid ha
  have HB0 := Lib.hid hb0
  have HBX0 := Lib.hid hbx
  have HLT := Lib.hid hlt
  have HT := Lib.hid hT
  have HW := Lib.hid hok.win
  have hadd : a.add s = { a with L := a.L ++ Gz.timE a.n ((stp : Int) - a.step) stp ++ (Gz.numE a.win (s.v ^^^ a.v)).1, t := s.t, v := s.v, step := stp, n := a.n + 1, win := (Gz.numE a.win (s.v ^^^ a.v)).2 } := by
    unfold Gz.Ap.add
    rw [if_neg (by omega), hstp, show (s.t - a.t) = (stp : Int) by omega]
  have HADD := Lib.hid hadd
  clear h hs e1 ha hbx hb0 hlt hadd hT hok ht hstp ho
  generalize s.v ^^^ a.v = X at *
  unfold smV
  go_enter Tryz.func24, Tryz.ntmps24
  go_wp2_with (go_at_call 21; refine (within_any _ s.t).mono ?_; rintro e wz ⟨rfl, hw⟩; rw [HE.out]; subst hw)
  go_quiet (fail)
  have ha1 := HA0.out.below (drewN_b _ nq)
  have hbx1 : (World.drewN (w.alloc (.cells #[.int .i64 s.t, .int .u64 (s.v : Int)] 79)) nq).heap[w.heap.size]? = some (.cells #[.int .i64 s.t, .int .u64 (s.v : Int)] 79 (0, 0)) := HBX0.out
  have HB1 := Lib.hid (HB0.out.trans ((drewN_b _ nq).mono (show w.heap.size ≤ (w.alloc (.cells #[.int .i64 s.t, .int .u64 (s.v : Int)] 79)).heap.size by simp)))
  have HA1 := Lib.hid ha1
  have HBX1 := Lib.hid hbx1
  obtain ⟨b0, b1⟩ := box2 hbx1
  obtain ⟨-, -, c2, c3, -, c5, -, -, -, -⟩ := ha1.cells
  clear ha1 hbx1
  go_wp2
  go_region_held3 (fun w' => w'.cell? ⟨P, 2, none⟩ = some (.int .i64 a.t) ∧ w'.cell? ⟨w.heap.size, 0, none⟩ = some (.int .i64 s.t)) (first | assumption | exact ⟨by assumption, by assumption⟩ | exact ⟨c2, b0⟩) (first | (go_at_call 70; refine (time_any (HA1.out.below (drew_b _)) stp hsl hstep (by omega)).mono ?_; rintro e w2 ⟨rfl, r2, ha2, hgr2, hn2⟩; have hbx2 := (hgr2.block w.heap.size (heap_lt HBX1.out) (by have := HLT.out.1; omega) (by have := HLT.out.2.1; omega) (fun e => by have := HLT.out.2.2 _ e.symm; omega)).trans HBX1.out; obtain ⟨-, -, c2, c3, -, c5, -, -, -, -⟩ := ha2.cells; obtain ⟨b0, b1⟩ := box2 hbx2; have HR2 := Lib.hid (show ∀ k, r2 = some k → k ≠ w.heap.size from fun k hk e => by rcases hn2 k hk with h6 | h6; exact (by have := HLT.out.2.2 _ h6; omega); have h7 : (w.alloc (.cells #[.int .i64 s.t, .int .u64 (s.v : Int)] 79)).heap.size ≤ k := h6; simp at h7; omega); have HA2 := Lib.hid ha2; have HBX2 := Lib.hid hbx2; have HG2 := Lib.hid (((Ga.ofBelow HB1.out).trans (Ga.ofBelow (drew_b _)) (Anew.refl _ _)).trans hgr2 (Anew.refl _ _)); have HN2 := Lib.hid (hn2.back HB1.out.size); clear ha2 hbx2 hgr2 hn2))
  have HT2 := Lib.hid (show TabW w2 from fun j hj => (World.cell?_of_block (a := ⟨1, j, none⟩) (HG2.out.block 1 hlb h1P h1B (fun e => h1r e.symm))).trans (HT.out j hj))
  have h1r2 : r2 ≠ some 1 := fun e => by
    rcases HN2.out 1 e with h6 | h6
    · exact h1r h6
    · omega
  have htl := Gz.timE_len a.n ((stp : Int) - a.step) stp (by omega)
  go_wp2_with fail
  go_region_held3 (fun w' => w'.cell? ⟨P, 3, none⟩ = some (.int .u64 (a.v : Int)) ∧ w'.cell? ⟨w.heap.size, 1, none⟩ = some (.int .u64 (s.v : Int))) (first | assumption | exact ⟨by assumption, by assumption⟩ | exact ⟨c3, b1⟩) (first | (go_at_call 71; refine (number_any (HA2.out.below (drew_b _)) HW.out X hxl HT2.out h1P h1B h1r2 (by simp; omega)).mono ?_; rintro e w3 ⟨rfl, r3, ha3, hgr3, hn3⟩; have hbx3 := (hgr3.block w.heap.size (heap_lt HBX2.out) (by have := HLT.out.1; omega) (by have := HLT.out.2.1; omega) (fun e => absurd rfl (HR2.out w.heap.size e.symm))).trans HBX2.out; obtain ⟨-, -, c2, c3, -, c5, -, -, -, fz⟩ := ha3.cells; obtain ⟨b0, b1⟩ := box2 hbx3; have HA3 := Lib.hid ha3; have HBX3 := Lib.hid hbx3; have HG3 := Lib.hid ((HG2.out.trans (Ga.ofBelow (drew_b _)) HN2.out).trans hgr3 HN2.out); have HN3 := Lib.hid (HN2.out.trans hn3 HG2.out.size); clear ha3 hbx3 hgr3 hn3))
  go_wp2_with fail
  go_region
  go_wp2
  go_ret
  have l := (HA3.out.below (drew_b w3)).last (t' := s.t) (v' := s.v) (n' := a.n + 1)
  rw [HADD.out]
  exact ⟨rfl, r3, l.1, (HG3.out.trans (Ga.ofBelow (drew_b _)) HN3.out).trans l.2 HN3.out, HN3.out⟩
end Go.Proofs.YtepjpdhmjchakaaGreatDoor
