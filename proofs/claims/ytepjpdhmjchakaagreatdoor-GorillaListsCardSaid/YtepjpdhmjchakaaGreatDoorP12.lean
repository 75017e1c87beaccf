import Derived.Test.YtepjpdhmjchakaaGreatDoorP11
/- An appender: Append whole; New; Chunk. -/
namespace Go.Proofs.YtepjpdhmjchakaaGreatDoor
open Go.RowKit
set_option linter.unusedVariables false

theorem Apm.below {w w' : World} {P B : Nat} {r : Option Nat} {a : Gz.Ap} (h : Apm w P B r a) (hb : Below w.heap.size w w') : Apm w' P B r a := Am.below h hb
/-- A sample is laid, or refused. -/
theorem app_any {w : World} {P B : Nat} {r : Option Nat} {a : Gz.Ap} (h : Apm w P B r a) (hok : a.ok) (s : Gz.Smp) (hv : s.v < 18446744073709551616) (hT : TabW w) (h1P : 1 ≠ P) (h1B : 1 ≠ B) (h1r : r ≠ some 1) :
    Calls Tryz.prog 24 #[.pointer (some ⟨P, 0, none⟩), smV s] w fun e w' => e = .returned (.int .u16 (a.app s).2) ∧ ∃ r', Apm w' P B r' (a.app s).1 ∧ Ga P B r w w' ∧ Anew w r r' := by
  unfold Gz.Ap.app
  by_cases h1 : s.t < -Gz.far ∨ Gz.far < s.t
  · rw [if_pos h1]
    exact (app_range h s h1).mono fun e w' ⟨e1, e2⟩ => ⟨e1, r, h.below e2, Ga.ofBelow e2, Anew.refl _ _⟩
  rw [if_neg h1]
  by_cases h2 : 0 < a.n ∧ s.t ≤ a.t
  · rw [if_pos h2]
    exact (app_order h s h1 h2.1 h2.2).mono fun e w' ⟨e1, e2⟩ => ⟨e1, r, h.below e2, Ga.ofBelow e2, Anew.refl _ _⟩
  rw [if_neg h2]
  by_cases h3 : a.n = 120
  · rw [if_pos h3]
    exact (app_many h s h1 (by omega) h3).mono fun e w' ⟨e1, e2⟩ => ⟨e1, r, h.below e2, Ga.ofBelow e2, Anew.refl _ _⟩
  rw [if_neg h3]
  by_cases h4 : a.n = 0
  · exact app_first h s h1 hv h4 (by have := hok.len; rw [h4] at this; omega)
  · exact app_next h hok s h1 hv (by omega) (by omega) h3 hT h1P h1B h1r

set_option maxHeartbeats 1000000 in
set_option maxRecDepth 100000 in
theorem gnew_any (w : World) : Calls Tryz.prog 22 #[] w fun e w' => e = .returned (.pointer (some ⟨w.heap.size + 1, 0, none⟩)) ∧ Apm w' (w.heap.size + 1) w.heap.size none Gz.Ap.new ∧ Below w.heap.size w w' := by
  go_enter Tryz.func22, Tryz.ntmps22
  go_wp2_with (go_at_call 66; refine (new_any _).mono ?_; rintro e w1 ⟨rfl, hw1⟩; subst hw1)
  go_ret
  refine ⟨by simp, ⟨?_, ?_⟩, ((Below.refl _ _).alloc (Nat.le_refl _) _).alloc (by simp) _⟩
  · have e := heap_alloc_new (w.alloc (.cells #[.slice none 0 0, .int .i64 0] 221)) (.cells (apTop w.heap.size 0 0 0 0 0 none) 88)
    rw [show (w.alloc (.cells #[.slice none 0 0, .int .i64 0] 221)).heap.size = w.heap.size + 1 by simp] at e
    exact e
  · obtain ⟨⟨u, hB, hown, hr⟩, hne⟩ := new_wr w
    exact ⟨⟨u, (Below.heap_alloc _ _ _ (by simp)).trans hB, own_of_same hown (fun k hk => by rw [hr] at hk; cases hk), hr⟩, hne⟩

theorem struct73 : ∃ fs, Tryz.prog.underlying 26 = some (.struct fs) := by
  have h : (match Tryz.prog.underlying 26 with | some (.struct _) => true | _ => false) = true := by kernel_rfl
  split at h
  · next fs e => exact ⟨fs, e⟩
  · cases h
theorem size73 : (Tryz.prog.info? 26).map (·.size) = some 4 := by kernel_rfl
theorem box4 {W : World} {q : Nat} {x0 x1 x2 x3 : Value} (h : W.heap[q]? = some (.cells #[x0, x1, x2, x3] 26 (0, 0))) : W.cell? ⟨q, 0, none⟩ = some x0 ∧ W.cell? ⟨q, 1, none⟩ = some x1 ∧ W.cell? ⟨q, 2, none⟩ = some x2 ∧ W.cell? ⟨q, 3, none⟩ = some x3 ∧ ∀ j, W.frozen? ⟨q, j, none⟩ = false :=
  ⟨(cell_of_row _ _ _ _ _ _ h).trans rfl, (cell_of_row _ _ _ _ _ _ h).trans rfl, (cell_of_row _ _ _ _ _ _ h).trans rfl, (cell_of_row _ _ _ _ _ _ h).trans rfl, fun _ => frozen_of_row _ _ _ _ _ h⟩
theorem own_low {w : World} {base base' : Nat} {e : TypeId} {size : Nat} {v : Value} {n : Nat} {xs : List Value} (h : w.ownsRow base e size v n xs) (hb : base' ≤ base) : w.ownsRow base' e size v n xs := by
  obtain ⟨h1, h | ⟨g, c, cur, h2, h3, h4⟩⟩ := h
  · exact ⟨h1, .inl h⟩
  · exact ⟨h1, .inr ⟨g, c, cur, h2, Nat.le_trans hb h3, h4⟩⟩
theorem own_from {w : World} {base : Nat} {e : TypeId} {size : Nat} {v : Value} {n : Nat} {xs : List Value} (h : w.ownsRow base e size v n xs) : ∀ k, v.ownBlock = some k → base ≤ k := by
  intro k hk
  obtain ⟨h1, ⟨rfl, _⟩ | ⟨g, c, cur, rfl, h3, _⟩⟩ := h
  · cases hk
  · have e2 : g = k := by injection hk
    omega
/-- Four stores into a named result of four cells. -/
theorem four_set {w2 : World} {q : Nat} {x0 x1 x2 x3 y0 y1 y2 y3 : Value} (h : w2.heap[q]? = some (.cells #[x0, x1, x2, x3] 26 (0, 0))) :
    ((((w2.setCell ⟨q, 0, none⟩ y0).setCell ⟨q, 1, none⟩ y1).setCell ⟨q, 2, none⟩ y2).setCell ⟨q, 3, none⟩ y3).heap[q]? = some (.cells #[y0, y1, y2, y3] 26 (0, 0)) :=
  heap_setCell_same _ _ 3 _ _ y3 (heap_setCell_same _ _ 2 _ _ y2 (heap_setCell_same _ _ 1 _ _ y1 (heap_setCell_same _ _ 0 _ _ y0 h)))
theorem four_other {w2 : World} {q k : Nat} {y0 y1 y2 y3 : Value} (h : k ≠ q) :
    ((((w2.setCell ⟨q, 0, none⟩ y0).setCell ⟨q, 1, none⟩ y1).setCell ⟨q, 2, none⟩ y2).setCell ⟨q, 3, none⟩ y3).heap[k]? = w2.heap[k]? :=
  (((heap_setCell_other _ _ _ _ h).trans (heap_setCell_other _ _ _ _ h)).trans (heap_setCell_other _ _ _ _ h)).trans (heap_setCell_other _ _ _ _ h)
/-- A chunk as a value. -/
def chV (f t : Int) (n : Nat) (v : Value) : Value := .agg #[.int .i64 f, .int .i64 t, .int .i64 (n : Int), v]

set_option maxHeartbeats 2000000 in
set_option maxRecDepth 100000 in
theorem chunk_any {w : World} {P B : Nat} {r : Option Nat} {a : Gz.Ap} (h : Apm w P B r a) (hok : a.ok) (hn : 0 < a.n) :
    Calls Tryz.prog 23 #[.pointer (some ⟨P, 0, none⟩)] w fun e w' => ∃ v, e = .returned (chV a.first a.t a.n v) ∧ w'.ownsRow w.heap.size 5 1 v (Bt.pack a.L).length ((Bt.pack a.L).map f8) ∧ Below w.heap.size w w' := by
  have hb0 : Below w.heap.size w (w.alloc (.cells #[.int .i64 0, .int .i64 0, .int .i64 0, .slice none 0 0] 26)) := (Below.refl _ _).alloc (Nat.le_refl _) _
  have ha := h.below hb0
  have hbx := heap_alloc_new w (.cells #[.int .i64 0, .int .i64 0, .int .i64 0, .slice none 0 0] 26)
  obtain ⟨c0, c1, c2, -, -, c5, -, -, -, -⟩ := ha.cells
  have gz : ((a.n : Int) == 0) = false := by simp; omega
  have hL : a.L.length ≤ 24000 := by have := hok.len; have := hok.n; omega
  have hPq : P ≠ w.heap.size := by have := h.lts.1; omega
  have HA0 := Lib.hid ha
  have HB0 := Lib.hid hb0
  have HBX0 := Lib.hid hbx
  clear h ha hb0 hbx hok hn
  go_enter Tryz.func23, Tryz.ntmps23
  go_wp2
  go_region_held3 (fun w' => w'.cell? ⟨P, 0, none⟩ = some (.pointer (some ⟨B, 0, none⟩)) ∧ w'.cell? ⟨P, 1, none⟩ = some (.int .i64 a.first) ∧ w'.cell? ⟨P, 2, none⟩ = some (.int .i64 a.t) ∧ w'.cell? ⟨P, 5, none⟩ = some (.int .i64 (a.n : Int))) (first | assumption | exact ⟨c0, c1, c2, c5⟩) (first | (go_at_call 67; refine (bytes_any _ B r a.L (HA0.out.below (drew_b _)).wr (by omega)).mono ?_; rintro e w2 ⟨v2, rfl, ho2, hb2⟩; obtain ⟨ao2, cap2, rfl⟩ := own_slice ho2; have ha2 := (HA0.out.below (drew_b _)).below hb2; obtain ⟨c0, c1, c2, -, -, c5, -, -, -, -⟩ := ha2.cells; have hbx2 := (hb2.block w.heap.size (heap_lt HBX0.out)).trans HBX0.out; obtain ⟨k0, k1, k2, k3, kz⟩ := box4 hbx2; have hP5 : ((((w2.setCell ⟨w.heap.size, 0, none⟩ (.int .i64 a.first)).setCell ⟨w.heap.size, 1, none⟩ (.int .i64 a.t)).setCell ⟨w.heap.size, 2, none⟩ (.int .i64 (a.n : Int))).setCell ⟨w.heap.size, 3, none⟩ (.slice ao2 (Bt.pack a.L).length cap2)).heap[P]? = w2.heap[P]? := (((heap_setCell_other _ _ _ _ hPq).trans (heap_setCell_other _ _ _ _ hPq)).trans (heap_setCell_other _ _ _ _ hPq)).trans (heap_setCell_other _ _ _ _ hPq); have S5 : ((((w2.setCell ⟨w.heap.size, 0, none⟩ (.int .i64 a.first)).setCell ⟨w.heap.size, 1, none⟩ (.int .i64 a.t)).setCell ⟨w.heap.size, 2, none⟩ (.int .i64 (a.n : Int))).setCell ⟨w.heap.size, 3, none⟩ (.slice ao2 (Bt.pack a.L).length cap2)).cell? ⟨P, 0, none⟩ = some (.pointer (some ⟨B, 0, none⟩)) ∧ ((((w2.setCell ⟨w.heap.size, 0, none⟩ (.int .i64 a.first)).setCell ⟨w.heap.size, 1, none⟩ (.int .i64 a.t)).setCell ⟨w.heap.size, 2, none⟩ (.int .i64 (a.n : Int))).setCell ⟨w.heap.size, 3, none⟩ (.slice ao2 (Bt.pack a.L).length cap2)).cell? ⟨P, 1, none⟩ = some (.int .i64 a.first) ∧ ((((w2.setCell ⟨w.heap.size, 0, none⟩ (.int .i64 a.first)).setCell ⟨w.heap.size, 1, none⟩ (.int .i64 a.t)).setCell ⟨w.heap.size, 2, none⟩ (.int .i64 (a.n : Int))).setCell ⟨w.heap.size, 3, none⟩ (.slice ao2 (Bt.pack a.L).length cap2)).cell? ⟨P, 2, none⟩ = some (.int .i64 a.t) ∧ ((((w2.setCell ⟨w.heap.size, 0, none⟩ (.int .i64 a.first)).setCell ⟨w.heap.size, 1, none⟩ (.int .i64 a.t)).setCell ⟨w.heap.size, 2, none⟩ (.int .i64 (a.n : Int))).setCell ⟨w.heap.size, 3, none⟩ (.slice ao2 (Bt.pack a.L).length cap2)).cell? ⟨P, 5, none⟩ = some (.int .i64 (a.n : Int)) := ⟨(World.cell?_of_block (a := ⟨P, 0, none⟩) hP5).trans c0, (World.cell?_of_block (a := ⟨P, 1, none⟩) hP5).trans c1, (World.cell?_of_block (a := ⟨P, 2, none⟩) hP5).trans c2, (World.cell?_of_block (a := ⟨P, 5, none⟩) hP5).trans c5⟩; have S2 := And.intro c0 (And.intro c1 (And.intro c2 c5)); have HO2 := Lib.hid ho2; have HB2 := Lib.hid hb2; have HBX2 := Lib.hid hbx2; clear ha2 ho2 hb2 hbx2 hP5))
  go_wp2
  obtain ⟨fs, hu⟩ := struct73
  have hsz : (w.alloc (.cells #[.int .i64 0, .int .i64 0, .int .i64 0, .slice none 0 0] 26)).drew.heap.size = w.heap.size + 1 := by simp
  have hown := HO2.out
  rw [hsz] at hown
  refine bodyPost_ret (results_cell_row Tryz.results23 _ _ w.heap.size 26 _ (0, 0) (.struct fs) rfl (four_set HBX2.out) hu rfl size73) rfl ?_
  refine ⟨_, rfl, own_low (own_of_same hown fun k hk => four_other (by have := own_from hown k hk; omega)) (by omega), ?_⟩
  have hbw := HB0.out.drew.trans (HB2.out.mono (by rw [hsz]; omega))
  exact (((hbw.setCell (Nat.le_refl _) _).setCell (Nat.le_refl _) _).setCell (Nat.le_refl _) _).setCell (Nat.le_refl _) _
end Go.Proofs.YtepjpdhmjchakaaGreatDoor
