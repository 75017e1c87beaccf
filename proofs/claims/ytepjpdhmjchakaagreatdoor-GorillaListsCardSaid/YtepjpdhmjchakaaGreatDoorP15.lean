import Derived.Test.YtepjpdhmjchakaaGreatDoorP11
import Derived.Test.YtepjpdhmjchakaaGreatDoorP5
/- A reader of chunks in memory; its bits. -/
namespace Go.Proofs.YtepjpdhmjchakaaGreatDoor
open Go.RowKit
set_option linter.unusedVariables false

/-- The reader at Q: its bits' reader at B, whether it is bad, the last step, the window. -/
structure Rg (w : World) (Q B : Nat) (v : Value) (at_ : Nat) (l : List UInt8) (lo hi : Nat) (bad : Bool) (step : Nat) (wl wr : Int) (is : Bool) : Prop where
  top : w.heap[Q]? = some (.cells #[.pointer (some ⟨B, 0, none⟩), .bool bad, .int .u64 (step : Int), .int .i64 wl, .int .i64 wr, .bool is] 232 (0, 0))
  rd : Rd w B v at_ l lo hi
  hq : hi ≤ Q
section
variable {w w' w1 : World} {Q B at_ at' lo hi step : Nat} {v : Value} {l : List UInt8} {bad is : Bool} {wl wr : Int}
theorem Rg.ne (h : Rg w Q B v at_ l lo hi bad step wl wr is) : Q ≠ B := fun e => by
  subst e
  have := h.rd.cells
  rw [h.top] at this
  injection this with this
  injection this with _ this
  exact absurd this (by decide)
theorem Rg.cell (h : Rg w Q B v at_ l lo hi bad step wl wr is) : w.cell? ⟨Q, 0, none⟩ = some (.pointer (some ⟨B, 0, none⟩)) ∧ w.cell? ⟨Q, 1, none⟩ = some (.bool bad) ∧ w.cell? ⟨Q, 2, none⟩ = some (.int .u64 (step : Int)) ∧ w.cell? ⟨Q, 3, none⟩ = some (.int .i64 wl) ∧ w.cell? ⟨Q, 4, none⟩ = some (.int .i64 wr) ∧ w.cell? ⟨Q, 5, none⟩ = some (.bool is) ∧ ∀ j, w.frozen? ⟨Q, j, none⟩ = false :=
  ⟨(cell_of_row _ _ _ _ _ _ h.top).trans rfl, (cell_of_row _ _ _ _ _ _ h.top).trans rfl, (cell_of_row _ _ _ _ _ _ h.top).trans rfl, (cell_of_row _ _ _ _ _ _ h.top).trans rfl, (cell_of_row _ _ _ _ _ _ h.top).trans rfl, (cell_of_row _ _ _ _ _ _ h.top).trans rfl, fun _ => frozen_of_row _ _ _ _ _ h.top⟩
/-- The bits' reader has gone on. -/
theorem Rg.go (h : Rg w Q B v at_ l lo hi bad step wl wr is) (hr : Rd w1 B v at' l lo hi) (hg : Gro B none w w1) : Rg w1 Q B v at' l lo hi bad step wl wr is :=
  ⟨(hg.block Q (heap_lt h.top) h.ne (by simp)).trans h.top, hr, h.hq⟩
/-- One of its own cells is set. -/
theorem Rg.set (h : Rg w Q B v at_ l lo hi bad step wl wr is) (j : Nat) (x : Value) {bad' is' : Bool} {step' : Nat} {wl' wr' : Int}
    (he : (#[.pointer (some ⟨B, 0, none⟩), .bool bad, .int .u64 (step : Int), .int .i64 wl, .int .i64 wr, .bool is] : Array Value).setIfInBounds j x = #[.pointer (some ⟨B, 0, none⟩), .bool bad', .int .u64 (step' : Int), .int .i64 wl', .int .i64 wr', .bool is']) :
    Rg (w.setCell ⟨Q, j, none⟩ x) Q B v at_ l lo hi bad' step' wl' wr' is' :=
  ⟨by rw [heap_setCell_same _ _ _ _ _ _ h.top, he], h.rd.set h.ne h.hq, h.hq⟩
theorem Ga.setQ (j : Nat) (x : Value) : Ga Q B none w (w.setCell ⟨Q, j, none⟩ x) :=
  Ga.set (fun k hk => heap_setCell_other _ _ _ _ hk) rfl rfl rfl (by simp)
end

set_option maxRecDepth 100000 in
theorem gbits_ok {w : World} {Q B at_ lo hi step : Nat} {v : Value} {l : List UInt8} {is : Bool} {wl wr : Int} {bad : Bool} (h : Rg w Q B v at_ l lo hi bad step wl wr is) (n : Nat) (hn : n ≤ 64) (hle : at_ + n ≤ 8 * l.length) :
    Calls Tryz.prog 95 #[.pointer (some ⟨Q, 0, none⟩), .int .i64 (n : Int)] w fun e w' => e = .returned (.int .u64 ((Bt.val (((Bt.unpack l).drop at_).take n) : Nat) : Int)) ∧ Rg w' Q B v (at_ + n) l lo hi bad step wl wr is ∧ Ga Q B none w w' := by
  obtain ⟨c0, -, -, -, -, -, -⟩ := h.cell
  have H := Lib.hid h
  clear h
  cases bad
  all_goals
    go_enter Tryz.func95, Tryz.ntmps95
    go_wp2_with (go_at_call 103; refine (rbits_any lo hi w B at_ n v l H.out.rd hn hle).mono ?_; rintro e w1 ⟨rfl, hr1, hg1⟩; have h1 := H.out.go hr1 hg1; obtain ⟨d0, d1, -, -, -, -, dz⟩ := h1.cell; have H1 := Lib.hid h1; have HG1 := Lib.hid hg1; clear hr1 hg1 h1)
    go_ret
    exact ⟨rfl, H1.out.set 1 _ rfl, (Ga.ofGro HG1.out).trans (Ga.setQ 1 _) (Anew.refl _ _)⟩
set_option maxRecDepth 100000 in
theorem gbits_short {w : World} {Q B at_ lo hi step : Nat} {v : Value} {l : List UInt8} {is : Bool} {wl wr : Int} {bad : Bool} (h : Rg w Q B v at_ l lo hi bad step wl wr is) (n : Nat) (hn : n ≤ 64) (hle : 8 * l.length < at_ + n) :
    Calls Tryz.prog 95 #[.pointer (some ⟨Q, 0, none⟩), .int .i64 (n : Int)] w fun e w' => e = .returned (.int .u64 0) ∧ Rg w' Q B v at_ l lo hi true step wl wr is ∧ Ga Q B none w w' := by
  obtain ⟨c0, -, -, -, -, -, -⟩ := h.cell
  have H := Lib.hid h
  clear h
  cases bad
  all_goals
    go_enter Tryz.func95, Tryz.ntmps95
    go_wp2_with (go_at_call 103; refine (rbits_short lo hi w B at_ n v l H.out.rd hn hle).mono ?_; rintro e w1 ⟨rfl, m1, rfl⟩; have h1 := H.out.go (w1 := w.drewN m1) (H.out.rd.drewN m1) (show Gro B none w (w.drewN m1) from ⟨rfl, rfl, rfl, Nat.le_refl _, fun _ _ _ _ => rfl⟩); obtain ⟨d0, d1, -, -, -, -, dz⟩ := h1.cell; have H1 := Lib.hid h1; clear h1)
    go_ret
    exact ⟨rfl, H1.out.set 1 _ rfl, (Ga.ofBelow (drewN_b w m1)).trans (Ga.setQ 1 _) (Anew.refl _ _)⟩
set_option maxRecDepth 100000 in
theorem gbits_out {w : World} {Q B at_ lo hi step : Nat} {v : Value} {l : List UInt8} {is : Bool} {wl wr : Int} {bad : Bool} (h : Rg w Q B v at_ l lo hi bad step wl wr is) (n : Int) (hn : n < 0 ∨ 64 < n) :
    Calls Tryz.prog 95 #[.pointer (some ⟨Q, 0, none⟩), .int .i64 n] w fun e w' => e = .returned (.int .u64 0) ∧ Rg w' Q B v at_ l lo hi true step wl wr is ∧ Ga Q B none w w' := by
  obtain ⟨c0, d1, -, -, -, -, dz⟩ := h.cell
  have H := Lib.hid h
  clear h
  cases bad
  all_goals
    go_enter Tryz.func95, Tryz.ntmps95
    go_wp2_with (go_at_call 103; refine (rbits_bad w B n hn).mono ?_; rintro e w1 ⟨rfl, hw1⟩; subst hw1)
    go_ret
    exact ⟨rfl, H.out.set 1 _ rfl, Ga.setQ 1 _⟩
theorem val_lt64 {L : List Bool} {n : Nat} (h : L.length ≤ n) (hn : n ≤ 64) : Bt.val L < 18446744073709551616 :=
  Nat.lt_of_lt_of_le (Bt.val_lt L) (Nat.pow_le_pow_right (by decide) (by omega : L.length ≤ 64))
/-- Of a reader that is not bad: the next bits, or it is bad. -/
theorem gbits_any {w : World} {Q B at_ lo hi step : Nat} {v : Value} {l : List UInt8} {is : Bool} {wl wr : Int} (h : Rg w Q B v at_ l lo hi false step wl wr is) (n : Nat) (hn : n ≤ 64) :
    Calls Tryz.prog 95 #[.pointer (some ⟨Q, 0, none⟩), .int .i64 (n : Int)] w fun e w' =>
      (∃ x a, Gz.rdk (Bt.unpack l) at_ n = some (x, a) ∧ x < 18446744073709551616 ∧ e = .returned (.int .u64 (x : Int)) ∧ Rg w' Q B v a l lo hi false step wl wr is ∧ Ga Q B none w w') ∨
      (Gz.rdk (Bt.unpack l) at_ n = none ∧ e = .returned (.int .u64 0) ∧ Rg w' Q B v at_ l lo hi true step wl wr is ∧ Ga Q B none w w') := by
  have hu := Bt.unpack_len l
  by_cases hle : at_ + n ≤ 8 * l.length
  · refine (gbits_ok h n hn hle).mono fun e w' ⟨h1, h2, h3⟩ => .inl ⟨_, at_ + n, ?_, ?_, h1, h2, h3⟩
    · unfold Gz.rdk
      rw [if_neg (by omega)]
    · exact val_lt64 (List.length_take_le _ _) hn
  · refine (gbits_short h n hn (by omega)).mono fun e w' ⟨h1, h2, h3⟩ => .inr ⟨?_, h1, h2, h3⟩
    unfold Gz.rdk
    rw [if_pos (by omega)]
/-- Of one that is bad: some number. -/
theorem gbits_bad {w : World} {Q B at_ lo hi step : Nat} {v : Value} {l : List UInt8} {is : Bool} {wl wr : Int} (h : Rg w Q B v at_ l lo hi true step wl wr is) (n : Int) :
    Calls Tryz.prog 95 #[.pointer (some ⟨Q, 0, none⟩), .int .i64 n] w fun e w' => ∃ x a, x < 18446744073709551616 ∧ e = .returned (.int .u64 ((x : Nat) : Int)) ∧ Rg w' Q B v a l lo hi true step wl wr is ∧ Ga Q B none w w' := by
  by_cases h1 : n < 0 ∨ 64 < n
  · exact (gbits_out h n h1).mono fun e w' ⟨h1, h2, h3⟩ => ⟨0, at_, by decide, h1, h2, h3⟩
  · obtain ⟨m, rfl⟩ := Int.eq_ofNat_of_zero_le (by omega : 0 ≤ n)
    by_cases hle : at_ + m ≤ 8 * l.length
    · exact (gbits_ok h m (by omega) hle).mono fun e w' ⟨h1, h2, h3⟩ => ⟨_, at_ + m, val_lt64 (List.length_take_le _ _) (by omega), h1, h2, h3⟩
    · exact (gbits_short h m (by omega) (by omega)).mono fun e w' ⟨h1, h2, h3⟩ => ⟨0, at_, by decide, h1, h2, h3⟩
theorem gbits_some {w : World} {Q B at_ lo hi step : Nat} {v : Value} {l : List UInt8} {is : Bool} {wl wr : Int} (h : Rg w Q B v at_ l lo hi false step wl wr is) (n : Nat) (hn : n ≤ 64) {x b : Nat} (hq : Gz.rdk (Bt.unpack l) at_ n = some (x, b)) :
    Calls Tryz.prog 95 #[.pointer (some ⟨Q, 0, none⟩), .int .i64 (n : Int)] w fun e w' => e = .returned (.int .u64 (x : Int)) ∧ Rg w' Q B v b l lo hi false step wl wr is ∧ Ga Q B none w w' := by
  refine (gbits_any h n hn).mono ?_
  rintro e w' (⟨y, c, h1, h2, h3, h4, h5⟩ | ⟨h1, _⟩)
  · rw [hq] at h1
    injection h1 with h1
    injection h1 with q1 q2
    subst q1 q2
    exact ⟨h3, h4, h5⟩
  · rw [hq] at h1
    cases h1
theorem gbits_none {w : World} {Q B at_ lo hi step : Nat} {v : Value} {l : List UInt8} {is : Bool} {wl wr : Int} (h : Rg w Q B v at_ l lo hi false step wl wr is) (n : Nat) (hn : n ≤ 64) (hq : Gz.rdk (Bt.unpack l) at_ n = none) :
    Calls Tryz.prog 95 #[.pointer (some ⟨Q, 0, none⟩), .int .i64 (n : Int)] w fun e w' => e = .returned (.int .u64 0) ∧ Rg w' Q B v at_ l lo hi true step wl wr is ∧ Ga Q B none w w' := by
  refine (gbits_any h n hn).mono ?_
  rintro e w' (⟨y, c, h1, _⟩ | ⟨_, h3, h4, h5⟩)
  · rw [hq] at h1
    cases h1
  · exact ⟨h3, h4, h5⟩
theorem rdk_lt {U : List Bool} {a n x b : Nat} (hn : n ≤ 64) (hq : Gz.rdk U a n = some (x, b)) : x < 18446744073709551616 := by
  unfold Gz.rdk at hq
  split at hq
  · cases hq
  · injection hq with hq
    injection hq with hq _
    rw [← hq]
    exact val_lt64 (List.length_take_le _ _) hn
theorem Rd.belowW {w w' : World} {B at_ lo hi : Nat} {v : Value} {l : List UInt8} (h : Rd w B v at_ l lo hi) (hh : hi ≤ w.heap.size) (hb : Below w.heap.size w w') : Rd w' B v at_ l lo hi :=
  ⟨(hb.block B (heap_lt h.cells)).trans h.cells, h.data.below hb hh, h.apart, h.le⟩
theorem Rg.below {w w' : World} {Q B at_ lo hi step : Nat} {v : Value} {l : List UInt8} {bad is : Bool} {wl wr : Int} (h : Rg w Q B v at_ l lo hi bad step wl wr is) (hb : Below w.heap.size w w') : Rg w' Q B v at_ l lo hi bad step wl wr is :=
  ⟨(hb.block Q (heap_lt h.top)).trans h.top, h.rd.belowW (by have := h.hq; have := heap_lt h.top; omega) hb, h.hq⟩
end Go.Proofs.YtepjpdhmjchakaaGreatDoor
