import Derived.Test.YtepjpdhmjchakaaGreatDoorP6
import Derived.Deep.RegionHeld3
/- An appender in memory; what is told of a step. -/
namespace Go.Proofs.YtepjpdhmjchakaaGreatDoor
open Go.RowKit
set_option linter.unusedVariables false

/-- The window's cells. -/
def wnL : Option (Nat × Nat) → Int
  | none => 0
  | some p => p.1
def wnR : Option (Nat × Nat) → Int
  | none => 0
  | some p => p.2
/-- An appender's own nine cells. -/
def apTop (B : Nat) (f t : Int) (v step n : Nat) (win : Option (Nat × Nat)) : Array Value :=
  #[.pointer (some ⟨B, 0, none⟩), .int .i64 f, .int .i64 t, .int .u64 v, .int .u64 step, .int .i64 n, .int .i64 (wnL win), .int .i64 (wnR win), .bool win.isSome]
/-- An appender at block P, its writer at B, its row r. -/
structure Am (w : World) (P B : Nat) (r : Option Nat) (L : List Bool) (f t : Int) (v step n : Nat) (win : Option (Nat × Nat)) : Prop where
  top : w.heap[P]? = some (.cells (apTop B f t v step n win) 88 (0, 0))
  wr : Wr w B r L
/-- What may have turned: the appender's block, its writer's, its row. -/
structure Ga (P B : Nat) (r : Option Nat) (w w' : World) : Prop where
  os : w'.os = w.os
  tape : w'.tape = w.tape
  output : w'.output = w.output
  size : w.heap.size ≤ w'.heap.size
  block : ∀ k, k < w.heap.size → k ≠ P → k ≠ B → some k ≠ r → w'.heap[k]? = w.heap[k]?
theorem Ga.refl (P B : Nat) (r : Option Nat) (w : World) : Ga P B r w w := ⟨rfl, rfl, rfl, Nat.le_refl _, fun _ _ _ _ _ => rfl⟩
theorem Ga.trans {P B : Nat} {r r' : Option Nat} {a b c : World} (h : Ga P B r a b) (k : Ga P B r' b c) (hr : Anew a r r') : Ga P B r a c :=
  ⟨k.os.trans h.os, k.tape.trans h.tape, k.output.trans h.output, Nat.le_trans h.size k.size, fun i hi h1 h2 h3 =>
    (k.block i (Nat.lt_of_lt_of_le hi h.size) h1 h2 (fun e => by rcases hr i e.symm with e2 | e2; exact h3 e2.symm; omega)).trans (h.block i hi h1 h2 h3)⟩
theorem Ga.ofGro {P B : Nat} {r : Option Nat} {w w' : World} (h : Gro B r w w') : Ga P B r w w' := ⟨h.os, h.tape, h.output, h.size, fun k hk _ h2 h3 => h.block k hk h2 h3⟩
theorem Ga.ofBelow {P B : Nat} {r : Option Nat} {w w' : World} (h : Below w.heap.size w w') : Ga P B r w w' := ⟨h.os, h.tape, h.output, h.size, fun k hk _ _ _ => h.block k hk⟩
theorem Ga.below {P B C : Nat} {r : Option Nat} {w w' : World} (h : Ga P B r w w') (hC : C ≤ w.heap.size) (hP : C ≤ P) (hB : C ≤ B) (hr : ∀ k, r = some k → C ≤ k) : Below C w w' :=
  ⟨h.os, h.tape, h.output, h.size, fun k hk => h.block k (by omega) (by omega) (by omega) (fun e => by have := hr k e.symm; omega)⟩
theorem Ga.set {P B : Nat} {r : Option Nat} {w w' : World} (h : ∀ k, k ≠ P → w'.heap[k]? = w.heap[k]?) (h1 : w'.os = w.os) (h2 : w'.tape = w.tape) (h3 : w'.output = w.output) (h4 : w'.heap.size = w.heap.size) : Ga P B r w w' :=
  ⟨h1, h2, h3, Nat.le_of_eq h4.symm, fun k _ hk _ _ => h k hk⟩
theorem drew_b (w : World) : Below w.heap.size w w.drew := ⟨rfl, rfl, rfl, Nat.le_refl _, fun _ _ => rfl⟩
theorem drewN_b (w : World) (n : Nat) : Below w.heap.size w (w.drewN n) := ⟨rfl, rfl, rfl, Nat.le_refl _, fun _ _ => rfl⟩
theorem heap_lt {w : World} {B : Nat} {o : Obj} (h : w.heap[B]? = some o) : B < w.heap.size := by
  rcases Nat.lt_or_ge B w.heap.size with h2 | h2
  · exact h2
  · rw [Array.getElem?_eq_none h2] at h; cases h
theorem own_block {w : World} {base : Nat} {e : TypeId} {s : Nat} {v : Value} {n : Nat} {xs : List Value} (h : w.ownsRow base e s v n xs) : ∀ k, v.ownBlock = some k → ∃ cs, w.heap[k]? = some (.cells cs e (0, 0)) := by
  intro k hk
  obtain ⟨_, ⟨rfl, _⟩ | ⟨g, c, cur, rfl, _, hh, _⟩⟩ := h
  · cases hk
  · have e2 : g = k := by injection hk
    exact ⟨cur, by rw [← e2]; exact hh⟩

section
variable {w w' : World} {P B : Nat} {r : Option Nat} {L : List Bool} {f t : Int} {v step n : Nat} {win : Option (Nat × Nat)}
theorem Am.cells (h : Am w P B r L f t v step n win) : w.cell? ⟨P, 0, none⟩ = some (.pointer (some ⟨B, 0, none⟩)) ∧ w.cell? ⟨P, 1, none⟩ = some (.int .i64 f) ∧ w.cell? ⟨P, 2, none⟩ = some (.int .i64 t) ∧ w.cell? ⟨P, 3, none⟩ = some (.int .u64 v) ∧ w.cell? ⟨P, 4, none⟩ = some (.int .u64 step) ∧
    w.cell? ⟨P, 5, none⟩ = some (.int .i64 n) ∧ w.cell? ⟨P, 6, none⟩ = some (.int .i64 (wnL win)) ∧ w.cell? ⟨P, 7, none⟩ = some (.int .i64 (wnR win)) ∧ w.cell? ⟨P, 8, none⟩ = some (.bool win.isSome) ∧ ∀ j, w.frozen? ⟨P, j, none⟩ = false :=
  ⟨(cell_of_row _ _ _ _ _ _ h.top).trans rfl, (cell_of_row _ _ _ _ _ _ h.top).trans rfl, (cell_of_row _ _ _ _ _ _ h.top).trans rfl, (cell_of_row _ _ _ _ _ _ h.top).trans rfl, (cell_of_row _ _ _ _ _ _ h.top).trans rfl, (cell_of_row _ _ _ _ _ _ h.top).trans rfl, (cell_of_row _ _ _ _ _ _ h.top).trans rfl, (cell_of_row _ _ _ _ _ _ h.top).trans rfl, (cell_of_row _ _ _ _ _ _ h.top).trans rfl, fun _ => frozen_of_row _ _ _ _ _ h.top⟩
theorem Am.ne (h : Am w P B r L f t v step n win) : P ≠ B ∧ r ≠ some P ∧ r ≠ some B := by
  obtain ⟨⟨u, hB, hown, hr⟩, hne⟩ := h.wr
  refine ⟨fun e => ?_, fun e => ?_, hne⟩
  · subst e; rw [h.top] at hB; injection hB with hB; injection hB with _ hB; cases hB
  · obtain ⟨cs, hc⟩ := own_block hown P (hr.trans e)
    rw [h.top] at hc; injection hc with hc; injection hc with _ hc; cases hc
/-- The writer's operation is done. -/
theorem Am.put (h : Am w P B r L f t v step n win) {r' : Option Nat} {L' : List Bool} (hw : Wr w' B r' L') (hg : Gro B r w w') : Am w' P B r' L' f t v step n win :=
  ⟨(hg.block P (heap_lt h.top) h.ne.1 (fun e => h.ne.2.1 e.symm)).trans h.top, hw⟩
theorem Am.below (h : Am w P B r L f t v step n win) (hb : Below w.heap.size w w') : Am w' P B r L f t v step n win := by
  obtain ⟨⟨u, hB, hown, hr⟩, hne⟩ := h.wr
  exact ⟨(hb.block P (heap_lt h.top)).trans h.top, ⟨⟨u, (hb.block B (heap_lt hB)).trans hB, own_of_same hown (fun k hk => hb.block k (hown.lt k hk).2), hr⟩, hne⟩⟩
/-- The appender's own cells are written. -/
theorem Am.retop (h : Am w P B r L f t v step n win) {f' t' : Int} {v' step' n' : Nat} {win' : Option (Nat × Nat)} (hP : w'.heap[P]? = some (.cells (apTop B f' t' v' step' n' win') 88 (0, 0))) (hs : ∀ k, k ≠ P → w'.heap[k]? = w.heap[k]?) : Am w' P B r L f' t' v' step' n' win' := by
  obtain ⟨n1, n2, n3⟩ := h.ne
  obtain ⟨⟨u, hB, hown, hr⟩, hne⟩ := h.wr
  exact ⟨hP, ⟨⟨u, (hs B (fun e => n1 e.symm)).trans hB, own_of_same hown (fun k hk => hs k (fun e => n2 (by rw [← hr, hk, e]))), hr⟩, hne⟩⟩
end

set_option maxRecDepth 100000 in
theorem within_any (w : World) (t : Int) : Calls Tryz.prog 21 #[.int .i64 t] w fun e w' => e = .returned (.bool (decide (-Gz.far ≤ t ∧ t ≤ Gz.far))) ∧ w = w' := by
  by_cases h1 : -9007199254740992 ≤ t
  · by_cases h2 : t ≤ 9007199254740992
    · have g1 : decide (-9007199254740992 ≤ t) = true := decide_eq_true h1
      have g2 : decide (t ≤ 9007199254740992) = true := decide_eq_true h2
      have e : decide (-Gz.far ≤ t ∧ t ≤ Gz.far) = true := decide_eq_true ⟨h1, h2⟩
      rw [e]
      go_enter Tryz.func21, Tryz.ntmps21
      go_wp2
      go_ret
      exact ⟨rfl, rfl⟩
    · have g1 : decide (-9007199254740992 ≤ t) = true := decide_eq_true h1
      have g2 : decide (t ≤ 9007199254740992) = false := decide_eq_false h2
      have e : decide (-Gz.far ≤ t ∧ t ≤ Gz.far) = false := decide_eq_false (fun h => h2 h.2)
      rw [e]
      go_enter Tryz.func21, Tryz.ntmps21
      go_wp2
      go_ret
      exact ⟨rfl, rfl⟩
  · have g1 : decide (-9007199254740992 ≤ t) = false := decide_eq_false h1
    have e : decide (-Gz.far ≤ t ∧ t ≤ Gz.far) = false := decide_eq_false (fun h => h1 h.1)
    rw [e]
    go_enter Tryz.func21, Tryz.ntmps21
    go_wp2
    go_ret
    exact ⟨rfl, rfl⟩

set_option maxRecDepth 100000 in
theorem many_any (w : World) (l q : Int) (b : Bool) (hl : 0 ≤ l ∧ l ≤ 1000) (hq : 0 ≤ q ∧ q ≤ 1000) : Calls Tryz.prog 92 #[.agg #[.int .i64 l, .int .i64 q, .bool b]] w fun e w' => e = .returned (.int .i64 (64 - l - q)) ∧ Below w.heap.size w w' := by
  go_enter Tryz.func92, Tryz.ntmps92
  go_wp2
  go_ret
  exact ⟨rfl, (Below.refl _ _).alloc (Nat.le_refl _) _⟩

set_option maxRecDepth 100000 in
theorem buckets_any (w : World) : Calls Tryz.prog 89 #[] w fun e w' => e = .returned (.agg #[.int .u64 2, .int .i64 2, .int .i64 (-63), .int .i64 64, .int .i64 7, .int .u64 6, .int .i64 3, .int .i64 (-255), .int .i64 256, .int .i64 9, .int .u64 14, .int .i64 4, .int .i64 (-2047), .int .i64 2048, .int .i64 12]) ∧ Below w.heap.size w w' := by
  go_enter Tryz.func89, Tryz.ntmps89
  go_wp2
  refine bodyPost_ret (results_cell_row Tryz.results89 _ _ w.heap.size 224 _ (0, 0) (.array 3 223) rfl (heap_alloc_new _ _) (by kernel_rfl) rfl (by kernel_rfl)) rfl ?_
  exact ⟨rfl, (Below.refl _ _).alloc (Nat.le_refl _) _⟩
end Go.Proofs.YtepjpdhmjchakaaGreatDoor
