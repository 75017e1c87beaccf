import Derived.Test.YtepjpdhmjchakaaGreatDoorP14
import Derived.Test.YtepjpdhmjchakaaGreatDoorQ19
import Derived.Test.YtepjpdhmjchakaaGreatDoorQ17
import Derived.Test.YtepjpdhmjchakaaGreatDoorQ18
/- What the books have in common. -/
namespace Go.Proofs.YtepjpdhmjchakaaGreatDoor
open Go.RowKit

/-- The book's cells. -/
def bookCells (vb : Value) : Array Value := #[vb, .slice none 0 0, .slice none 0 0, .slice none 0 0, .slice none 0 0, .slice none 0 0, .slice none 0 0, .slice none 0 0, .slice none 0 0, .slice none 0 0, .slice none 0 0, .slice none 0 0, .slice none 0 0, .slice none 0 0, .slice none 0 0, .slice none 0 0, .slice none 0 0, .slice none 0 0, .slice none 0 0, .slice none 0 0, .slice none 0 0, .slice none 0 0, .slice none 0 0, .slice none 0 0, .slice none 0 0, .slice none 0 0, .slice none 0 0, .slice none 0 0, .slice none 0 0, .slice none 0 0, .slice none 0 0, .slice none 0 0]
theorem book_cells {w : World} {B : Nat} {vb : Value} (h : w.heap[B]? = some (.cells (bookCells vb) 73 (0, 0))) :
    w.cell? ⟨B, 0, none⟩ = some (vb) ∧ w.cell? ⟨B, 1, none⟩ = some (.slice none 0 0) ∧ w.cell? ⟨B, 2, none⟩ = some (.slice none 0 0) ∧ w.cell? ⟨B, 3, none⟩ = some (.slice none 0 0) ∧ w.cell? ⟨B, 4, none⟩ = some (.slice none 0 0) ∧ w.cell? ⟨B, 5, none⟩ = some (.slice none 0 0) ∧ w.cell? ⟨B, 6, none⟩ = some (.slice none 0 0) ∧ w.cell? ⟨B, 7, none⟩ = some (.slice none 0 0) ∧ w.cell? ⟨B, 8, none⟩ = some (.slice none 0 0) ∧ w.cell? ⟨B, 9, none⟩ = some (.slice none 0 0) ∧ w.cell? ⟨B, 10, none⟩ = some (.slice none 0 0) ∧ w.cell? ⟨B, 11, none⟩ = some (.slice none 0 0) ∧ w.cell? ⟨B, 12, none⟩ = some (.slice none 0 0) ∧ w.cell? ⟨B, 13, none⟩ = some (.slice none 0 0) ∧ w.cell? ⟨B, 14, none⟩ = some (.slice none 0 0) ∧ w.cell? ⟨B, 15, none⟩ = some (.slice none 0 0) ∧ w.cell? ⟨B, 16, none⟩ = some (.slice none 0 0) ∧ w.cell? ⟨B, 17, none⟩ = some (.slice none 0 0) ∧ w.cell? ⟨B, 18, none⟩ = some (.slice none 0 0) ∧ w.cell? ⟨B, 19, none⟩ = some (.slice none 0 0) ∧ w.cell? ⟨B, 20, none⟩ = some (.slice none 0 0) ∧ w.cell? ⟨B, 21, none⟩ = some (.slice none 0 0) ∧ w.cell? ⟨B, 22, none⟩ = some (.slice none 0 0) ∧ w.cell? ⟨B, 23, none⟩ = some (.slice none 0 0) ∧ w.cell? ⟨B, 24, none⟩ = some (.slice none 0 0) ∧ w.cell? ⟨B, 25, none⟩ = some (.slice none 0 0) ∧ w.cell? ⟨B, 26, none⟩ = some (.slice none 0 0) ∧ w.cell? ⟨B, 27, none⟩ = some (.slice none 0 0) ∧ w.cell? ⟨B, 28, none⟩ = some (.slice none 0 0) ∧ w.cell? ⟨B, 29, none⟩ = some (.slice none 0 0) ∧ w.cell? ⟨B, 30, none⟩ = some (.slice none 0 0) ∧ w.cell? ⟨B, 31, none⟩ = some (.slice none 0 0) :=
  ⟨(cell_of_row _ _ _ _ _ _ h).trans rfl, (cell_of_row _ _ _ _ _ _ h).trans rfl, (cell_of_row _ _ _ _ _ _ h).trans rfl, (cell_of_row _ _ _ _ _ _ h).trans rfl, (cell_of_row _ _ _ _ _ _ h).trans rfl, (cell_of_row _ _ _ _ _ _ h).trans rfl, (cell_of_row _ _ _ _ _ _ h).trans rfl, (cell_of_row _ _ _ _ _ _ h).trans rfl, (cell_of_row _ _ _ _ _ _ h).trans rfl, (cell_of_row _ _ _ _ _ _ h).trans rfl, (cell_of_row _ _ _ _ _ _ h).trans rfl, (cell_of_row _ _ _ _ _ _ h).trans rfl, (cell_of_row _ _ _ _ _ _ h).trans rfl, (cell_of_row _ _ _ _ _ _ h).trans rfl, (cell_of_row _ _ _ _ _ _ h).trans rfl, (cell_of_row _ _ _ _ _ _ h).trans rfl, (cell_of_row _ _ _ _ _ _ h).trans rfl, (cell_of_row _ _ _ _ _ _ h).trans rfl, (cell_of_row _ _ _ _ _ _ h).trans rfl, (cell_of_row _ _ _ _ _ _ h).trans rfl, (cell_of_row _ _ _ _ _ _ h).trans rfl, (cell_of_row _ _ _ _ _ _ h).trans rfl, (cell_of_row _ _ _ _ _ _ h).trans rfl, (cell_of_row _ _ _ _ _ _ h).trans rfl, (cell_of_row _ _ _ _ _ _ h).trans rfl, (cell_of_row _ _ _ _ _ _ h).trans rfl, (cell_of_row _ _ _ _ _ _ h).trans rfl, (cell_of_row _ _ _ _ _ _ h).trans rfl, (cell_of_row _ _ _ _ _ _ h).trans rfl, (cell_of_row _ _ _ _ _ _ h).trans rfl, (cell_of_row _ _ _ _ _ _ h).trans rfl, (cell_of_row _ _ _ _ _ _ h).trans rfl⟩

theorem Bk.start {E e : TypeId} {w : World} {base : Nat} {vb : Value} {vs : List Value} {ln : Nat → Nat} (h1 : w.ownsRow base E 1 vb vs.length vs) (h2 : ∀ (j : Nat) (v : Value), vs[j]? = some v → ∃ xs, w.ownsRow base e 1 v (ln j) xs) :
    Bk E e w w base vb vs ln (fun _ _ => True) :=
  ⟨h1, fun j v hv => by obtain ⟨xs, h⟩ := h2 j v hv; exact ⟨xs, h, trivial⟩, Oth.refl _ _, fun k hk => (h1.lt k hk).2, fun j v hv k hk => by obtain ⟨xs, h⟩ := h2 j v hv; exact (h.lt k hk).2⟩
theorem Bk.nil (E e : TypeId) (w : World) (base : Nat) (ln : Nat → Nat) : Bk E e w w base (.slice none 0 0) [] ln (fun _ _ => True) :=
  Bk.start (World.ownsRow_nil _ _ _ _) (fun j v h => by simp at h)
/-- What rows of another type leave as it was. -/
theorem Bk.keeps {E e : TypeId} {w w1 : World} {base : Nat} {vb : Value} {vs : List Value} {ln : Nat → Nat} {F : Nat → List Value → Prop} (h : Bk E e w w base vb vs ln F) (o : Oth vs w w1) {base' : Nat} {e' : TypeId} {s : Nat} {v : Value} {n : Nat} {xs : List Value} (hv : w.ownsRow base' e' s v n xs) (hne : e' ≠ e) : w1.ownsRow base' e' s v n xs :=
  own_of_same hv (fun k hk => o.block k (hv.lt k hk).2 (fun u hu e1 => by
    obtain ⟨j, hj⟩ := List.getElem?_of_mem hu
    obtain ⟨ys, h1, _⟩ := h.rows j u hj
    exact own_apart hv h1 hne k hk e1))
theorem Bk.block {E e : TypeId} {w w1 : World} {base : Nat} {vb : Value} {vs : List Value} {ln : Nat → Nat} {F : Nat → List Value → Prop} (h : Bk E e w w base vb vs ln F) (o : Oth vs w w1) {B : Nat} {cs : Array Value} {e' : TypeId} (hB : w.heap[B]? = some (.cells cs e' (0, 0))) (hne : e' ≠ e) : w1.heap[B]? = some (.cells cs e' (0, 0)) := by
  have hl : B < w.heap.size := by
    rcases Nat.lt_or_ge B w.heap.size with h2 | h2
    · exact h2
    · rw [Array.getElem?_eq_none h2] at hB; cases hB
  rw [o.block B hl (fun u hu e1 => ?_)]
  · exact hB
  · obtain ⟨j, hj⟩ := List.getElem?_of_mem hu
    obtain ⟨ys, h1, _⟩ := h.rows j u hj
    obtain ⟨_, ⟨rfl, _⟩ | ⟨g, c, cur, rfl, _, hh, _⟩⟩ := h1
    · cases e1
    · have e2 : g = B := by injection e1
      rw [e2, hB] at hh
      injection hh with hh
      injection hh with _ hh
      exact hne hh

/-- A book at block B: lists of bytes. -/
structure Book (w : World) (base B : Nat) (vb : Value) (vs : List Value) (ln : Nat → Nat) : Prop where
  cell : w.heap[B]? = some (.cells (bookCells vb) 73 (0, 0))
  bytes : Bk 24 5 w w base vb vs ln (fun _ _ => True)
  apt : Apt vs

theorem Bk.low {E e : TypeId} {w : World} {base : Nat} {vb : Value} {vs : List Value} {ln : Nat → Nat} {F : Nat → List Value → Prop} (h : Bk E e w w base vb vs ln F) : ∀ v ∈ vs, ∀ k, v.ownBlock = some k → base ≤ k := by
  intro v hv k hk
  obtain ⟨j, hj⟩ := List.getElem?_of_mem hv
  obtain ⟨ys, h1, _⟩ := h.rows j v hj
  exact (h1.lt k hk).1

theorem own_block_ne {w : World} {base : Nat} {e : TypeId} {s : Nat} {v : Value} {n : Nat} {xs : List Value} (h : w.ownsRow base e s v n xs) {B : Nat} {cs : Array Value} {t : TypeId} {fr : Nat × Nat} (hB : w.heap[B]? = some (.cells cs t fr)) (hne : e ≠ t) : v.ownBlock ≠ some B := by
  intro e1
  obtain ⟨_, ⟨rfl, _⟩ | ⟨g, c, cur, rfl, _, hh, _⟩⟩ := h
  · cases e1
  · have e2 : g = B := by injection e1
    rw [e2, hB] at hh
    injection hh with hh
    injection hh with _ hh
    exact hne hh.symm
theorem Apt.snoc {vs : List Value} {v : Value} (h : Apt vs) (hv : ∀ u ∈ vs, ∀ k, u.ownBlock = some k → v.ownBlock ≠ some k) : Apt (vs ++ [v]) := by
  have last : ∀ (j : Nat) (u : Value), (vs ++ [v])[j]? = some u → (vs[j]? = some u ∧ j < vs.length) ∨ (j = vs.length ∧ u = v) := by
    intro j u hu
    by_cases hj : j < vs.length
    · rw [List.getElem?_append_left hj] at hu; exact .inl ⟨hu, hj⟩
    · rw [List.getElem?_append_right (by omega)] at hu
      rcases Nat.eq_zero_or_pos (j - vs.length) with h0 | h0
      · rw [h0] at hu; simp at hu; exact .inr ⟨by omega, hu.symm⟩
      · rw [List.getElem?_eq_none (by simp; omega)] at hu; cases hu
  intro i j a b ha hb hij k hk hk2
  rcases last i a ha with ⟨h1, _⟩ | ⟨h1, rfl⟩
  · rcases last j b hb with ⟨h2, _⟩ | ⟨h2, rfl⟩
    · exact h i j a b h1 h2 hij k hk hk2
    · exact hv a (List.mem_of_getElem? h1) k hk hk2
  · rcases last j b hb with ⟨h2, _⟩ | ⟨h2, rfl⟩
    · exact hv b (List.mem_of_getElem? h2) k hk2 hk
    · omega

end Go.Proofs.YtepjpdhmjchakaaGreatDoor

/- The book of bytes, of one row of samples and one row of chunks. Printed by genbookg.py. -/
namespace Go.Proofs.YtepjpdhmjchakaaGreatDoor
open Go.RowKit
set_option linter.unusedVariables false

/-- The book's cells. -/
def bk3 (vb ss cs : Value) : Array Value := #[vb, .slice none 0 0, .slice none 0 0, .slice none 0 0, .slice none 0 0, .slice none 0 0, .slice none 0 0, .slice none 0 0, .slice none 0 0, .slice none 0 0, ss, .slice none 0 0, .slice none 0 0, .slice none 0 0, .slice none 0 0, .slice none 0 0, .slice none 0 0, .slice none 0 0, .slice none 0 0, .slice none 0 0, .slice none 0 0, .slice none 0 0, .slice none 0 0, .slice none 0 0, .slice none 0 0, .slice none 0 0, cs, .slice none 0 0, .slice none 0 0, .slice none 0 0, .slice none 0 0, .slice none 0 0]
theorem bk3_cells {w : World} {B : Nat} {vb ss cs : Value} (h : w.heap[B]? = some (.cells (bk3 vb ss cs) 73 (0, 0))) :
    w.cell? ⟨B, 0, none⟩ = some (vb) ∧ w.cell? ⟨B, 1, none⟩ = some (.slice none 0 0) ∧ w.cell? ⟨B, 2, none⟩ = some (.slice none 0 0) ∧ w.cell? ⟨B, 3, none⟩ = some (.slice none 0 0) ∧ w.cell? ⟨B, 4, none⟩ = some (.slice none 0 0) ∧ w.cell? ⟨B, 5, none⟩ = some (.slice none 0 0) ∧ w.cell? ⟨B, 6, none⟩ = some (.slice none 0 0) ∧ w.cell? ⟨B, 7, none⟩ = some (.slice none 0 0) ∧ w.cell? ⟨B, 8, none⟩ = some (.slice none 0 0) ∧ w.cell? ⟨B, 9, none⟩ = some (.slice none 0 0) ∧ w.cell? ⟨B, 10, none⟩ = some (ss) ∧ w.cell? ⟨B, 11, none⟩ = some (.slice none 0 0) ∧ w.cell? ⟨B, 12, none⟩ = some (.slice none 0 0) ∧ w.cell? ⟨B, 13, none⟩ = some (.slice none 0 0) ∧ w.cell? ⟨B, 14, none⟩ = some (.slice none 0 0) ∧ w.cell? ⟨B, 15, none⟩ = some (.slice none 0 0) ∧ w.cell? ⟨B, 16, none⟩ = some (.slice none 0 0) ∧ w.cell? ⟨B, 17, none⟩ = some (.slice none 0 0) ∧ w.cell? ⟨B, 18, none⟩ = some (.slice none 0 0) ∧ w.cell? ⟨B, 19, none⟩ = some (.slice none 0 0) ∧ w.cell? ⟨B, 20, none⟩ = some (.slice none 0 0) ∧ w.cell? ⟨B, 21, none⟩ = some (.slice none 0 0) ∧ w.cell? ⟨B, 22, none⟩ = some (.slice none 0 0) ∧ w.cell? ⟨B, 23, none⟩ = some (.slice none 0 0) ∧ w.cell? ⟨B, 24, none⟩ = some (.slice none 0 0) ∧ w.cell? ⟨B, 25, none⟩ = some (.slice none 0 0) ∧ w.cell? ⟨B, 26, none⟩ = some (cs) ∧ w.cell? ⟨B, 27, none⟩ = some (.slice none 0 0) ∧ w.cell? ⟨B, 28, none⟩ = some (.slice none 0 0) ∧ w.cell? ⟨B, 29, none⟩ = some (.slice none 0 0) ∧ w.cell? ⟨B, 30, none⟩ = some (.slice none 0 0) ∧ w.cell? ⟨B, 31, none⟩ = some (.slice none 0 0) :=
  ⟨(cell_of_row _ _ _ _ _ _ h).trans rfl, (cell_of_row _ _ _ _ _ _ h).trans rfl, (cell_of_row _ _ _ _ _ _ h).trans rfl, (cell_of_row _ _ _ _ _ _ h).trans rfl, (cell_of_row _ _ _ _ _ _ h).trans rfl, (cell_of_row _ _ _ _ _ _ h).trans rfl, (cell_of_row _ _ _ _ _ _ h).trans rfl, (cell_of_row _ _ _ _ _ _ h).trans rfl, (cell_of_row _ _ _ _ _ _ h).trans rfl, (cell_of_row _ _ _ _ _ _ h).trans rfl, (cell_of_row _ _ _ _ _ _ h).trans rfl, (cell_of_row _ _ _ _ _ _ h).trans rfl, (cell_of_row _ _ _ _ _ _ h).trans rfl, (cell_of_row _ _ _ _ _ _ h).trans rfl, (cell_of_row _ _ _ _ _ _ h).trans rfl, (cell_of_row _ _ _ _ _ _ h).trans rfl, (cell_of_row _ _ _ _ _ _ h).trans rfl, (cell_of_row _ _ _ _ _ _ h).trans rfl, (cell_of_row _ _ _ _ _ _ h).trans rfl, (cell_of_row _ _ _ _ _ _ h).trans rfl, (cell_of_row _ _ _ _ _ _ h).trans rfl, (cell_of_row _ _ _ _ _ _ h).trans rfl, (cell_of_row _ _ _ _ _ _ h).trans rfl, (cell_of_row _ _ _ _ _ _ h).trans rfl, (cell_of_row _ _ _ _ _ _ h).trans rfl, (cell_of_row _ _ _ _ _ _ h).trans rfl, (cell_of_row _ _ _ _ _ _ h).trans rfl, (cell_of_row _ _ _ _ _ _ h).trans rfl, (cell_of_row _ _ _ _ _ _ h).trans rfl, (cell_of_row _ _ _ _ _ _ h).trans rfl, (cell_of_row _ _ _ _ _ _ h).trans rfl, (cell_of_row _ _ _ _ _ _ h).trans rfl⟩
structure BookG (w : World) (base B : Nat) (vb : Value) (vs : List Value) (ln : Nat → Nat) (ss cs : Value) : Prop where
  cell : w.heap[B]? = some (.cells (bk3 vb ss cs) 73 (0, 0))
  bytes : Bk 24 5 w w base vb vs ln (fun _ _ => True)
  apt : Apt vs
theorem keep_put {w w1 : World} {r : Option Nat} (g : w.grownBy w1 r) {B i : Nat} {x : Value} {c0 : Array Value} (hB : w1.heap[B]? = some (.cells c0 73 (0, 0))) {base : Nat} {e : TypeId} {s : Nat} {u : Value} {m : Nat} {zs : List Value} (hu : w.ownsRow base e s u m zs) (hr : ∀ k, r = some k → u.ownBlock ≠ some k) (he : e ≠ 73) :
    (w1.setCell ⟨B, i, none⟩ x).ownsRow base e s u m zs := by
  have hu1 : w1.ownsRow base e s u m zs := hu.kept g (by
    rcases hub : u.ownBlock with _ | k
    · exact .inl rfl
    · exact .inr (fun e1 => hr k e1.symm hub))
  refine own_of_same hu1 (fun k hk => heap_setCell_other _ _ _ _ (fun e1 => ?_))
  exact own_block_ne hu1 hB he (by rw [hk, e1])
theorem keep_oth {w w1 : World} {sv : Value} {b1 n1 s1 : Nat} {e1 : TypeId} {xs : List Value} (o : Oth [sv] w w1) (hsv : w.ownsRow b1 e1 s1 sv n1 xs) {b2 n2 s2 : Nat} {e2 : TypeId} {v : Value} {ys : List Value} (hv : w.ownsRow b2 e2 s2 v n2 ys) (hne : e2 ≠ e1) : w1.ownsRow b2 e2 s2 v n2 ys :=
  own_of_same hv (fun k hk => o.block k (hv.lt k hk).2 (fun u hu e => by simp at hu; subst hu; exact own_apart hv hsv hne k hk e))
theorem cell_oth {w w1 : World} {sv : Value} {b1 n1 s1 : Nat} {e1 : TypeId} {xs : List Value} (o : Oth [sv] w w1) (hsv : w.ownsRow b1 e1 s1 sv n1 xs) {B : Nat} {c0 : Array Value} {e2 : TypeId} (hB : w.heap[B]? = some (.cells c0 e2 (0, 0))) (hne : e1 ≠ e2) : w1.heap[B]? = some (.cells c0 e2 (0, 0)) :=
  (o.block B (heap_lt hB) (fun u hu e => by simp at hu; subst hu; exact own_block_ne hsv hB hne e)).trans hB

set_option maxRecDepth 100000 in
theorem bookBytesG_any (w : World) (base B : Nat) (vb : Value) (vs : List Value) (ln : Nat → Nat) (v : Value) (n : Nat) (xs : List Value) (ss cs : Value) (h : BookG w base B vb vs ln ss cs) (hv : w.ownsRow base 5 1 v n xs)
    (hfr : ∀ u ∈ vs, ∀ k, u.ownBlock = some k → v.ownBlock ≠ some k) (hN : vs.length < 1000000000) (hb : base ≤ w.heap.size) :
    Calls Tryz.prog 32 #[.pointer (some ⟨B, 0, none⟩), v] w fun e w' => e = .returned (.tuple #[]) ∧ ∃ vb', BookG w' base B vb' (vs ++ [v]) (fun j => if j = vs.length then n else ln j) ss cs ∧ Gro B vb.ownBlock w w' ∧ Anew w vb.ownBlock vb'.ownBlock := by
  obtain ⟨i1, hi1, hy0, hy1, hy2⟩ := info_parts infoB
  have c0 := (bk3_cells h.cell).1
  have hBl := heap_lt h.cell
  have hvbB := own_block_ne h.bytes.row h.cell (by decide)
  obtain ⟨av, cv, rfl⟩ := own_slice hv
  have HB := Lib.hid h
  have HV := Lib.hid hv
  clear h hv
  go_enter Tryz.func32, Tryz.ntmps32
  go_wp2_with (at_builtin; refine wpList_append_stay _ rfl (.tmp 8) (.tmp 10) 40 rfl base 24 i1 (.slice none 0 0) 24 undS hi1 hy0 hy1 hy2 rfl vb vs.length _ rfl (HB.out.bytes.row.alloc _) ⟨w.heap.size, 0, none⟩ 1 (.slice av n cv) rfl (news_alloc w [.slice av n cv] 24) rfl (by unfold maxLen; omega) (by omega) (by simp; omega) ?_; intro g cap w1 hown1 hst1 hgl; have hcell1 := (hst1.grown.block B (by simp; omega) (fun e => hvbB e.symm)).trans ((Below.heap_alloc w _ B hBl).trans HB.out.cell); have d0 := (bk3_cells hcell1).1; have dz : w1.frozen? ⟨B, 0, none⟩ = false := frozen_of_row _ _ _ _ _ hcell1; have HO1 := Lib.hid hown1; have HS1 := Lib.hid hst1; have HC1 := Lib.hid hcell1; clear hown1 hst1 hcell1 hgl)
  go_end0
  have hgr := grown_alloc HS1.out.grown
  have hgB : g ≠ B := fun e => own_block_ne HO1.out HC1.out (by decide) (by rw [e]; rfl)
  have key : ∀ {e : TypeId} {u : Value} {m : Nat} {zs : List Value}, w.ownsRow base e 1 u m zs → e ≠ 24 → e ≠ 73 → (w1.setCell ⟨B, 0, none⟩ (.slice (some ⟨g, 0, none⟩) (vs.length + 1) cap)).ownsRow base e 1 u m zs := by
    intro e u m zs hu h1 h2
    have hu1 : w1.ownsRow base e 1 u m zs := hu.kept hgr (by
      rcases hub : u.ownBlock with _ | k
      · exact .inl rfl
      · exact .inr (fun e1 => own_apart hu HB.out.bytes.row h1 k hub e1.symm))
    refine own_of_same hu1 (fun k hk => heap_setCell_other _ _ _ _ (fun e1 => ?_))
    exact own_block_ne hu1 HC1.out h2 (by rw [hk, e1])
  have hown2 : (w1.setCell ⟨B, 0, none⟩ (.slice (some ⟨g, 0, none⟩) (vs.length + 1) cap)).ownsRow base 24 1 (.slice (some ⟨g, 0, none⟩) (vs.length + 1) cap) (vs.length + 1) (vs ++ [.slice av n cv]) :=
    own_of_same HO1.out (fun k hk => heap_setCell_other _ _ _ _ (by injection hk with hk; exact fun e => hgB (hk.trans e)))
  refine ⟨rfl, .slice (some ⟨g, 0, none⟩) (vs.length + 1) cap, ⟨?_, ?_, HB.out.apt.snoc hfr⟩, ?_, ?_⟩
  · rw [heap_setCell_same _ _ _ _ _ _ HC1.out]; rfl
  · refine Bk.start (by rw [List.length_append]; exact hown2) (fun j u hu => ?_)
    by_cases hj : j < vs.length
    · rw [List.getElem?_append_left hj] at hu
      obtain ⟨zs, hz, _⟩ := HB.out.bytes.rows j u hu
      refine ⟨zs, ?_⟩
      rw [if_neg (by omega)]
      exact key hz (by decide) (by decide)
    · rw [List.getElem?_append_right (by omega)] at hu
      rcases Nat.eq_zero_or_pos (j - vs.length) with h0 | h0
      · rw [h0] at hu
        simp at hu
        subst hu
        refine ⟨xs, ?_⟩
        rw [if_pos (by omega)]
        exact key HV.out (by decide) (by decide)
      · rw [List.getElem?_eq_none (by simp; omega)] at hu; cases hu
  · refine ⟨hgr.os, hgr.tape, hgr.output, by simpa using hgr.size, fun k hk h1 h2 => ?_⟩
    rw [heap_setCell_other _ _ _ _ h1]
    exact hgr.block k hk h2
  · intro k hk
    injection hk with hk
    have hk2 : g = k := hk
    rcases HS1.out with ⟨h1, _⟩ | ⟨h1, _⟩
    · left; rw [h1]; exact congrArg some hk2
    · right; rw [← hk2, h1]; simp

/-- What a list's place in the book takes. -/
theorem BookG.put {w w1 : World} {base B : Nat} {vb : Value} {vs : List Value} {ln : Nat → Nat} {ss cs ss' cs' x : Value} {i : Nat} (h : BookG w base B vb vs ln ss cs) (g : w.grownBy w1 none) (hc : (bk3 vb ss cs).setIfInBounds i x = bk3 vb ss' cs') :
    BookG (w1.setCell ⟨B, i, none⟩ x) base B vb vs ln ss' cs' := by
  have hB1 : w1.heap[B]? = some (.cells (bk3 vb ss cs) 73 (0, 0)) := (g.block B (heap_lt h.cell) (fun e => by cases e)).trans h.cell
  refine ⟨by rw [heap_setCell_same _ _ _ _ _ _ hB1, hc], ?_, h.apt⟩
  refine Bk.start (keep_put g hB1 h.bytes.row (fun k e => by cases e) (by decide)) (fun j u hu => ?_)
  obtain ⟨zs, hz, _⟩ := h.bytes.rows j u hu
  exact ⟨zs, keep_put g hB1 hz (fun k e => by cases e) (by decide)⟩

set_option maxRecDepth 100000 in
theorem bookSamples_any (w : World) (base B : Nat) (vb : Value) (vs : List Value) (ln : Nat → Nat) (cs : Value) (v : Value) (n : Nat) (xs : List Value) (h : BookG w base B vb vs ln (.slice none 0 0) cs) (hv : w.ownsRow base 79 2 v n xs) (hb : base ≤ w.heap.size) :
    Calls Tryz.prog 15 #[.pointer (some ⟨B, 0, none⟩), v] w fun e w' => e = .returned (.tuple #[]) ∧ ∃ ss', BookG w' base B vb vs ln ss' cs ∧ w'.ownsRow base 22 1 ss' 1 [v] ∧ Below B w w' ∧
      (∀ (base' : Nat) (e : TypeId) (s : Nat) (u : Value) (m : Nat) (zs : List Value), w.ownsRow base' e s u m zs → e ≠ 73 → w'.ownsRow base' e s u m zs) := by
  obtain ⟨i1, hi1, hy0, hy1, hy2⟩ := info_parts infoLSm
  obtain ⟨-, -, -, -, -, -, -, -, -, -, c10, -, -, -, -, -, -, -, -, -, -, -, -, -, -, -, -, -, -, -, -, -⟩ := bk3_cells h.cell
  have hBl := heap_lt h.cell
  obtain ⟨av, cv, rfl⟩ := own_slice hv
  have HB := Lib.hid h
  have HV := Lib.hid hv
  clear h hv
  go_enter Tryz.func15, Tryz.ntmps15
  go_wp2_with (at_builtin; go_loud (refine wpList_append_own _ rfl (.tmp 8) (.tmp 10) 50 rfl base 22 i1 (.slice none 0 0) 1 24 undSm hi1 hy0 hy1 hy2 rfl (by decide) _ 0 [] rfl (World.ownsRow_nil _ _ _ _) ⟨w.heap.size, 0, none⟩ 1 1 [.slice av n cv] rfl rfl (news_alloc w [.slice av n cv] 22) (by simp [Value.oneCell']) (by unfold maxLen; omega) (by omega) (by simp; omega) ?_); intro v4 w4 hown4 hgrow4 _; obtain ⟨g4, q4, rfl, _, _⟩ := own_shape hown4 (by omega); have hg4 := grown_alloc hgrow4; have hcell4 := (hg4.block B hBl (fun e => by cases e)).trans HB.out.cell; obtain ⟨-, -, -, -, -, -, -, -, -, -, d10, -, -, -, -, -, -, -, -, -, -, -, -, -, -, -, -, -, -, -, -, -⟩ := bk3_cells hcell4; have dz : w4.frozen? ⟨B, 10, none⟩ = false := frozen_of_row _ _ _ _ _ hcell4; have HO4 := Lib.hid hown4; have HG4 := Lib.hid hg4; have HC4 := Lib.hid hcell4; clear hown4 hgrow4 hg4 hcell4)
  go_end0
  refine ⟨rfl, _, HB.out.put HG4.out rfl, ?_, ?_, fun base' e s u m zs hu he => keep_put HG4.out HC4.out hu (fun k e => by cases e) he⟩
  · exact own_of_same HO4.out (fun k hk => heap_setCell_other _ _ _ _ (fun e => own_block_ne HO4.out HC4.out (by decide) (by rw [hk, e])))
  · exact ((Below.refl B w).grown HG4.out (by omega) (fun k e => by cases e)).setCell (Nat.le_refl _) _

set_option maxHeartbeats 4000000 in
set_option maxRecDepth 100000 in
theorem bookChunks_any (w : World) (base B : Nat) (v : Value) (us : List Value) (l : List Ck) (h : BookG w base B (.slice none 0 0) [] (fun j => (l.map (fun c => c.d.length)).getD j 0) (.slice none 0 0) (.slice none 0 0)) (hr : CRow w base v us l) (hlt : ∀ k, (v.ownBlock = some k ∨ ∃ u ∈ us, u.ownBlock = some k) → k < B) (hn : l.length ≤ 1000000) (hd : ∀ c ∈ l, c.d.length ≤ 140737488355328) (hb : base ≤ B) :
    Calls Tryz.prog 14 #[.pointer (some ⟨B, 0, none⟩), v] w fun e w' => e = .returned (.tuple #[]) ∧ ∃ vb cs, BookG w' base B vb us (fun j => (l.map (fun c => c.d.length)).getD j 0) (.slice none 0 0) cs ∧ w'.ownsRow base 23 1 cs 1 [v] ∧ Below B w w' := by
  obtain ⟨i1, hi1, hy0, hy1, hy2⟩ := info_parts infoLCk
  obtain ⟨-, -, -, -, -, -, -, -, -, -, -, -, -, -, -, -, -, -, -, -, -, -, -, -, -, -, c26, -, -, -, -, -⟩ := bk3_cells h.cell
  have hBl := heap_lt h.cell
  obtain ⟨av, cv, rfl⟩ := own_slice hr.row
  have HB := Lib.hid h
  have HR := Lib.hid hr
  have HLT := Lib.hid hlt
  have HD := Lib.hid hd
  have hul := hr.len
  clear h hr hlt hd
  go_enter Tryz.func14, Tryz.ntmps14
  go_wp2_with (at_builtin; go_loud (refine wpList_append_own _ rfl (.tmp 9) (.tmp 11) 66 rfl base 23 i1 (.slice none 0 0) 1 24 undCk hi1 hy0 hy1 hy2 rfl (by decide) _ 0 [] rfl (World.ownsRow_nil _ _ _ _) ⟨w.heap.size, 0, none⟩ 1 1 [.slice av l.length cv] rfl rfl (news_alloc w [.slice av l.length cv] 23) (by simp [Value.oneCell']) (by unfold maxLen; omega) (by omega) (by simp; omega) ?_); intro v4 w4 hown4 hgrow4 _; obtain ⟨g4, q4, rfl, _, _⟩ := own_shape hown4 (by omega); have hg4 := grown_alloc hgrow4; have hcell4 := (hg4.block B hBl (fun e => by cases e)).trans HB.out.cell; obtain ⟨-, -, -, -, -, -, -, -, -, -, -, -, -, -, -, -, -, -, -, -, -, -, -, -, -, -, d26, -, -, -, -, -⟩ := bk3_cells hcell4; have dz : w4.frozen? ⟨B, 26, none⟩ = false := frozen_of_row _ _ _ _ _ hcell4; have HO4 := Lib.hid hown4; have HG4 := Lib.hid hg4; have HC4 := Lib.hid hcell4; clear hown4 hgrow4 hg4 hcell4)
  go_loopw [4] (fun i wr => ∃ (k : Nat) (vb : Value), k ≤ l.length ∧ i = .int .i64 k ∧ BookG wr base B vb (us.take k) (fun j => (l.map (fun c => c.d.length)).getD j 0) (.slice none 0 0) (.slice (some ⟨g4, 0, none⟩) 1 q4) ∧ Below B w wr ∧ wr.ownsRow base 23 1 (.slice (some ⟨g4, 0, none⟩) 1 q4) 1 [.slice av l.length cv] ∧ (∀ q, vb.ownBlock = some q → B ≤ q)) (fun i _ => l.length - (intOf i).toNat)
  case atStart =>
    refine ⟨0, .slice none 0 0, Nat.zero_le _, rfl, ?_, ?_, ?_, fun q hq => by cases hq⟩
    · rw [List.take_zero]
      exact HB.out.put HG4.out rfl
    · exact ((Below.refl B w).grown HG4.out (by omega) (fun k e => by cases e)).setCell (Nat.le_refl _) _
    · exact own_of_same HO4.out (fun k hk => heap_setCell_other _ _ _ _ (fun e => own_block_ne HO4.out HC4.out (by decide) (by rw [hk, e])))
  case round =>
    obtain ⟨k, vb, hk, rfl, hbk, hbel, hcs, hvb⟩ := hrel
    have HBK := Lib.hid hbk
    have HBE := Lib.hid hbel
    have HCS := Lib.hid hcs
    have HVB := Lib.hid hvb
    have hRw : CRow wr base (.slice av l.length cv) us l := HR.out.same (fun q hq => hbel.block q (HLT.out q (.inl hq))) (fun u hu q hq => hbel.block q (HLT.out q (.inr ⟨u, hu, hq⟩)))
    have HRW := Lib.hid hRw
    have hBw := heap_lt hbk.cell
    clear hbk hbel hcs hvb hRw
    by_cases hlt : k < l.length
    · obtain ⟨gv, cw, hv1, _, _⟩ := own_shape HRW.out.row (by omega)
      injection hv1 with hb1 _ hb2
      subst hb1 hb2
      have hku : k < us.length := by omega
      obtain ⟨u, hu⟩ : ∃ u, us[k] = u := ⟨_, rfl⟩
      obtain ⟨c, hc⟩ : ∃ c, l[k] = c := ⟨_, rfl⟩
      have hd3 : wr.cell? ⟨gv, k * 4 + 3, none⟩ = some u := (HRW.out.row.cellAt (k * 4 + 3) (by omega)).trans ((cks_get hul hlt hku 3 (by decide)).trans (by rw [hu]; rfl))
      have hrow := HRW.out.each k u c (by rw [List.getElem?_eq_getElem hku, hu]) (by rw [List.getElem?_eq_getElem hlt, hc])
      obtain ⟨au, cu, rfl⟩ := own_slice hrow
      have HROW := Lib.hid hrow
      have HUK := Lib.hid (show us[k]? = some (.slice au c.d.length cu) by rw [List.getElem?_eq_getElem hku, hu])
      have HTK := Lib.hid (show us.take (k + 1) = us.take k ++ [.slice au c.d.length cu] by rw [List.take_succ_eq_append_getElem hku, hu])
      have HLN := Lib.hid (show (fun j => if j = (us.take k).length then c.d.length else (l.map (fun c => c.d.length)).getD j 0) = (fun j => (l.map (fun c => c.d.length)).getD j 0) from funext fun j => by
        split
        · next e =>
          rw [List.length_take, Nat.min_eq_left (by omega)] at e
          subst e
          rw [List.getD_eq_getElem?_getD, List.getElem?_map, List.getElem?_eq_getElem hlt, hc]
          rfl
        · rfl)
      have i1 : (0 : Int) ≤ (k : Int) ∧ (k : Int) < (l.length : Int) := by omega
      have hfr : ∀ x ∈ us.take k, ∀ q, x.ownBlock = some q → (Value.slice au c.d.length cu).ownBlock ≠ some q := fun x hx q hq => by
        obtain ⟨j, hj⟩ := List.getElem?_of_mem hx
        have hjk : j < k := by
          have := (List.getElem?_eq_some_iff.1 hj).1
          rw [List.length_take] at this
          omega
        rw [List.getElem?_take_of_lt hjk] at hj
        exact HRW.out.apt j k x _ hj HUK.out (by omega) q hq
      have HFR := Lib.hid hfr
      clear hrow hu hc hfr
      go_wp2_with fail
      refine Calls.mono (by exact bookBytesG_any wr base B vb (us.take k) _ (.slice au c.d.length cu) c.d.length _ _ _ HBK.out HROW.out HFR.out (by rw [List.length_take]; omega) (by omega)) ?_
      rintro e w5 ⟨rfl, vb', hbk5, hgro, hnew⟩
      rw [HLN.out, ← HTK.out] at hbk5
      have HBK5 := Lib.hid hbk5
      have HGRO := Lib.hid hgro
      have HNEW := Lib.hid hnew
      clear hbk5 hgro hnew
      go_wp2_with fail
      go_roundw
      case rel =>
        refine ⟨k + 1, vb', by omega, by push_cast; rfl, HBK5.out, HBE.out.trans (HGRO.out.below (by omega) (Nat.le_refl _) (fun q hq => HVB.out q hq)), ?_, fun q hq => ?_⟩
        · refine own_of_same HCS.out (fun q hq => HGRO.out.block q (HCS.out.lt q hq).2 (fun e => ?_) (fun e => ?_))
          · exact own_block_ne HCS.out HBK.out.cell (by decide) (by rw [hq, e])
          · exact own_apart HCS.out HBK.out.bytes.row (by decide) q hq e.symm
        · rcases HNEW.out q hq with h1 | h1
          · exact HVB.out q h1
          · omega
      case measure => simp [intOf]; omega
    · obtain rfl : k = l.length := by omega
      have HBK2 := Lib.hid (show BookG wr base B vb us (fun j => (l.map (fun c => c.d.length)).getD j 0) (.slice none 0 0) (.slice (some ⟨g4, 0, none⟩) 1 q4) by have := HBK.out; rwa [List.take_of_length_le (by omega)] at this)
      clear HBK
      go_wp2_with fail
      go_end0
      exact ⟨rfl, vb, _, HBK2.out, HCS.out, HBE.out⟩
end Go.Proofs.YtepjpdhmjchakaaGreatDoor
