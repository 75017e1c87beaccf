/- The book: lists that came out are put in; at last each is its owner's. A list is put into the book. -/
import Derived.Test.YtnplcfgjidolbaaDm13
section
namespace Go.Proofs.Ytnplcfgjidolbaa
open Go.RowKit

/-- The book's cells. -/
def bookCells (vb vi : Value) : Array Value := #[vb, .slice none 0 0, vi, .slice none 0 0, .slice none 0 0, .slice none 0 0, .slice none 0 0, .slice none 0 0, .slice none 0 0, .slice none 0 0, .slice none 0 0, .slice none 0 0, .slice none 0 0, .slice none 0 0, .slice none 0 0, .slice none 0 0, .slice none 0 0, .slice none 0 0, .slice none 0 0, .slice none 0 0, .slice none 0 0, .slice none 0 0, .slice none 0 0, .slice none 0 0, .slice none 0 0, .slice none 0 0, .slice none 0 0, .slice none 0 0, .slice none 0 0, .slice none 0 0, .slice none 0 0, .slice none 0 0]
theorem book_cells {w : World} {B : Nat} {vb vi : Value} (h : w.heap[B]? = some (.cells (bookCells vb vi) 76 (0, 0))) :
    w.cell? ⟨B, 0, none⟩ = some (vb) ∧ w.cell? ⟨B, 1, none⟩ = some (.slice none 0 0) ∧ w.cell? ⟨B, 2, none⟩ = some (vi) ∧ w.cell? ⟨B, 3, none⟩ = some (.slice none 0 0) ∧ w.cell? ⟨B, 4, none⟩ = some (.slice none 0 0) ∧ w.cell? ⟨B, 5, none⟩ = some (.slice none 0 0) ∧ w.cell? ⟨B, 6, none⟩ = some (.slice none 0 0) ∧ w.cell? ⟨B, 7, none⟩ = some (.slice none 0 0) ∧ w.cell? ⟨B, 8, none⟩ = some (.slice none 0 0) ∧ w.cell? ⟨B, 9, none⟩ = some (.slice none 0 0) ∧ w.cell? ⟨B, 10, none⟩ = some (.slice none 0 0) ∧ w.cell? ⟨B, 11, none⟩ = some (.slice none 0 0) ∧ w.cell? ⟨B, 12, none⟩ = some (.slice none 0 0) ∧ w.cell? ⟨B, 13, none⟩ = some (.slice none 0 0) ∧ w.cell? ⟨B, 14, none⟩ = some (.slice none 0 0) ∧ w.cell? ⟨B, 15, none⟩ = some (.slice none 0 0) ∧ w.cell? ⟨B, 16, none⟩ = some (.slice none 0 0) ∧ w.cell? ⟨B, 17, none⟩ = some (.slice none 0 0) ∧ w.cell? ⟨B, 18, none⟩ = some (.slice none 0 0) ∧ w.cell? ⟨B, 19, none⟩ = some (.slice none 0 0) ∧ w.cell? ⟨B, 20, none⟩ = some (.slice none 0 0) ∧ w.cell? ⟨B, 21, none⟩ = some (.slice none 0 0) ∧ w.cell? ⟨B, 22, none⟩ = some (.slice none 0 0) ∧ w.cell? ⟨B, 23, none⟩ = some (.slice none 0 0) ∧ w.cell? ⟨B, 24, none⟩ = some (.slice none 0 0) ∧ w.cell? ⟨B, 25, none⟩ = some (.slice none 0 0) ∧ w.cell? ⟨B, 26, none⟩ = some (.slice none 0 0) ∧ w.cell? ⟨B, 27, none⟩ = some (.slice none 0 0) ∧ w.cell? ⟨B, 28, none⟩ = some (.slice none 0 0) ∧ w.cell? ⟨B, 29, none⟩ = some (.slice none 0 0) ∧ w.cell? ⟨B, 30, none⟩ = some (.slice none 0 0) ∧ w.cell? ⟨B, 31, none⟩ = some (.slice none 0 0) :=
  ⟨(cell_of_row _ _ _ _ _ _ h).trans rfl, (cell_of_row _ _ _ _ _ _ h).trans rfl, (cell_of_row _ _ _ _ _ _ h).trans rfl, (cell_of_row _ _ _ _ _ _ h).trans rfl, (cell_of_row _ _ _ _ _ _ h).trans rfl, (cell_of_row _ _ _ _ _ _ h).trans rfl, (cell_of_row _ _ _ _ _ _ h).trans rfl, (cell_of_row _ _ _ _ _ _ h).trans rfl, (cell_of_row _ _ _ _ _ _ h).trans rfl, (cell_of_row _ _ _ _ _ _ h).trans rfl, (cell_of_row _ _ _ _ _ _ h).trans rfl, (cell_of_row _ _ _ _ _ _ h).trans rfl, (cell_of_row _ _ _ _ _ _ h).trans rfl, (cell_of_row _ _ _ _ _ _ h).trans rfl, (cell_of_row _ _ _ _ _ _ h).trans rfl, (cell_of_row _ _ _ _ _ _ h).trans rfl, (cell_of_row _ _ _ _ _ _ h).trans rfl, (cell_of_row _ _ _ _ _ _ h).trans rfl, (cell_of_row _ _ _ _ _ _ h).trans rfl, (cell_of_row _ _ _ _ _ _ h).trans rfl, (cell_of_row _ _ _ _ _ _ h).trans rfl, (cell_of_row _ _ _ _ _ _ h).trans rfl, (cell_of_row _ _ _ _ _ _ h).trans rfl, (cell_of_row _ _ _ _ _ _ h).trans rfl, (cell_of_row _ _ _ _ _ _ h).trans rfl, (cell_of_row _ _ _ _ _ _ h).trans rfl, (cell_of_row _ _ _ _ _ _ h).trans rfl, (cell_of_row _ _ _ _ _ _ h).trans rfl, (cell_of_row _ _ _ _ _ _ h).trans rfl, (cell_of_row _ _ _ _ _ _ h).trans rfl, (cell_of_row _ _ _ _ _ _ h).trans rfl, (cell_of_row _ _ _ _ _ _ h).trans rfl⟩

theorem Bk.start {E e : TypeId} {w : World} {base : Nat} {vb : Value} {vs : List Value} {ln : Nat → Nat} (h1 : w.ownsRow base E 1 vb vs.length vs) (h2 : ∀ (j : Nat) (v : Value), vs[j]? = some v → ∃ xs, w.ownsRow base e 1 v (ln j) xs) :
    Bk E e w w base vb vs ln (fun _ _ => True) :=
  ⟨h1, fun j v hv => by obtain ⟨xs, h⟩ := h2 j v hv; exact ⟨xs, h, trivial⟩, Oth.refl _ _, fun k hk => (h1.lt k hk).2, fun j v hv k hk => by obtain ⟨xs, h⟩ := h2 j v hv; exact (h.lt k hk).2⟩
theorem Bk.nil (E e : TypeId) (w : World) (base : Nat) (ln : Nat → Nat) : Bk E e w w base (.slice none 0 0) [] ln (fun _ _ => True) :=
  Bk.start (World.ownsRow_nil _ _ _ _) (fun j v h => by simp at h)
/-- What rows of another type leave as it was. -/
theorem Bk.keeps {E e : TypeId} {w w1 : World} {base : Nat} {vb : Value} {vs : List Value} {ln : Nat → Nat} {F : Nat → List Value → Prop} (h : Bk E e w w base vb vs ln F) (o : Oth vs w w1) {base' : Nat} {e' : TypeId} {s : Nat} {v : Value} {n : Nat} {xs : List Value} (hv : w.ownsRow base' e' s v n xs) (hne : e' ≠ e) : w1.ownsRow base' e' s v n xs :=
  own_of_same hv (fun k hk => o.block k (hv.lt k hk).2 (fun u hu e1 => by
    obtain ⟨j, hj⟩ := List.getElem?_of_mem hu
    obtain ⟨ys, h1, _⟩ := h.rows j u hj
    exact own_apart hv h1 hne k hk e1))
theorem Bk.block {E e : TypeId} {w w1 : World} {base : Nat} {vb : Value} {vs : List Value} {ln : Nat → Nat} {F : Nat → List Value → Prop} (h : Bk E e w w base vb vs ln F) (o : Oth vs w w1) {B : Nat} {cs : Array Value} {e' : TypeId} (hB : w.heap[B]? = some (.cells cs e' (0, 0))) (hne : e' ≠ e) : w1.heap[B]? = some (.cells cs e' (0, 0)) := by
  have hl : B < w.heap.size := by
    rcases Nat.lt_or_ge B w.heap.size with h2 | h2
    · exact h2
    · rw [Array.getElem?_eq_none h2] at hB; cases hB
  rw [o.block B hl (fun u hu e1 => ?_)]
  · exact hB
  · obtain ⟨j, hj⟩ := List.getElem?_of_mem hu
    obtain ⟨ys, h1, _⟩ := h.rows j u hj
    obtain ⟨_, ⟨rfl, _⟩ | ⟨g, c, cur, rfl, _, hh, _⟩⟩ := h1
    · cases e1
    · have e2 : g = B := by injection e1
      rw [e2, hB] at hh
      injection hh with hh
      injection hh with _ hh
      exact hne hh

/-- A book at block B: lists of bytes, lists of integers. -/
structure Book (w : World) (base B : Nat) (vb : Value) (vs : List Value) (ln : Nat → Nat) (vi : Value) (us : List Value) (lm : Nat → Nat) : Prop where
  cell : w.heap[B]? = some (.cells (bookCells vb vi) 76 (0, 0))
  bytes : Bk 22 5 w w base vb vs ln (fun _ _ => True)
  ints : Bk 96 3 w w base vi us lm (fun _ _ => True)
  apt : Apt vs
  apti : Apt us

theorem Bk.low {E e : TypeId} {w : World} {base : Nat} {vb : Value} {vs : List Value} {ln : Nat → Nat} {F : Nat → List Value → Prop} (h : Bk E e w w base vb vs ln F) : ∀ v ∈ vs, ∀ k, v.ownBlock = some k → base ≤ k := fun v hv k hk => by
  obtain ⟨j, hj⟩ := List.getElem?_of_mem hv
  obtain ⟨ys, h1, _⟩ := h.rows j v hj
  exact (h1.lt k hk).1

set_option maxHeartbeats 4000000 in
set_option maxRecDepth 100000 in
theorem own_any (w : World) (base B : Nat) (vb : Value) (vs : List Value) (ln : Nat → Nat) (vi : Value) (us : List Value) (lm : Nat → Nat) (h : Book w base B vb vs ln vi us lm) (hln : ∀ j, ln j ≤ 1099511627776) (hlm : ∀ j, lm j ≤ 1099511627776)
    (hN : vs.length ≤ 1000000000) (hM : us.length ≤ 1000000000) (hb : base ≤ w.heap.size) : Calls Try.prog 22 #[.pointer (some ⟨B, 0, none⟩)] w fun e w' => e = .returned (.bool true) ∧ Below base w w' := by
  have HB := Lib.hid h
  obtain ⟨c0, -, -, -, -, -, -, -, -, -, -, -, -, -, -, -, -, -, -, -, -, -, -, -, -, -, -, -, -, -, -, -⟩ := book_cells h.cell
  have HC := Lib.hid (ownBytes_any w base vb vs ln h.bytes h.apt hln hN hb)
  obtain ⟨ab, cb, rfl⟩ := own_slice h.bytes.row
  obtain ⟨ai, ci, rfl⟩ := own_slice h.ints.row
  clear h
  go_enter Try.func22, Try.ntmps22
  go_wp2_with (first
    | (go_at_call 56; refine Calls.mono HC.out ?_; rintro e w1 ⟨rfl, ho1⟩; have hcell1 := HB.out.bytes.block ho1 HB.out.cell (by decide); obtain ⟨p0, p1, p2, -, -, -, -, -, -, -, -, -, -, -, -, -, -, -, -, -, -, -, -, -, -, -, -, -, -, -, -, -⟩ := book_cells hcell1; clear c0; have HO1 := Lib.hid ho1; have HCell1 := Lib.hid hcell1; have hi1 : Bk 96 3 w1 w1 base (.slice ai us.length ci) us lm (fun _ _ => True) := Bk.start (HB.out.bytes.keeps ho1 HB.out.ints.row (by decide)) (fun j v hv => by obtain ⟨xs, hx, _⟩ := HB.out.ints.rows j v hv; exact ⟨xs, HB.out.bytes.keeps ho1 hx (by decide)⟩); have HI1 := Lib.hid hi1; have HC2 := Lib.hid (ownInts_any w1 base _ us lm hi1 HB.out.apti hlm hM (Nat.le_trans hb ho1.size)); clear ho1 hcell1 hi1)
    | (go_at_call 57; refine (nil_57 _).mono ?_; rintro e wx ⟨rfl, rfl⟩)
    | (go_at_call 58; refine Calls.mono HC2.out ?_; rintro e w2 ⟨rfl, ho2⟩; have hcell2 := HI1.out.block ho2 HCell1.out (by decide); obtain ⟨q0, q1, q2, q3, q4, q5, q6, q7, q8, q9, q10, q11, q12, q13, q14, q15, q16, q17, q18, q19, q20, q21, q22, q23, q24, q25, q26, q27, q28, q29, -, -⟩ := book_cells hcell2; clear p0 p1 p2; have HO2 := Lib.hid ho2; have HCell2 := Lib.hid hcell2; clear ho2 hcell2)
    | (go_at_call 59; refine (nil_59 _).mono ?_; rintro e wx ⟨rfl, rfl⟩)
    | (go_at_call 60; refine (nil_60 _).mono ?_; rintro e wx ⟨rfl, rfl⟩)
    | (go_at_call 61; refine (nil_61 _).mono ?_; rintro e wx ⟨rfl, rfl⟩)
    | (go_at_call 62; refine (nil_62 _).mono ?_; rintro e wx ⟨rfl, rfl⟩)
    | (go_at_call 63; refine (nil_63 _).mono ?_; rintro e wx ⟨rfl, rfl⟩)
    | (go_at_call 64; refine (nil_64 _).mono ?_; rintro e wx ⟨rfl, rfl⟩)
    | (go_at_call 65; refine (nil_65 _).mono ?_; rintro e wx ⟨rfl, rfl⟩)
    | (go_at_call 66; refine (nil_66 _).mono ?_; rintro e wx ⟨rfl, rfl⟩)
    | (go_at_call 67; refine (nil_67 _).mono ?_; rintro e wx ⟨rfl, rfl⟩)
    | (go_at_call 68; refine (nil_68 _).mono ?_; rintro e wx ⟨rfl, rfl⟩)
    | (go_at_call 69; refine (nil_69 _).mono ?_; rintro e wx ⟨rfl, rfl⟩)
    | (go_at_call 70; refine (nil_70 _).mono ?_; rintro e wx ⟨rfl, rfl⟩)
    | (go_at_call 71; refine (nil_71 _).mono ?_; rintro e wx ⟨rfl, rfl⟩)
    | (go_at_call 72; refine (nil_72 _).mono ?_; rintro e wx ⟨rfl, rfl⟩)
    | (go_at_call 73; refine (nil_73 _).mono ?_; rintro e wx ⟨rfl, rfl⟩)
    | (go_at_call 74; refine (nil_74 _).mono ?_; rintro e wx ⟨rfl, rfl⟩)
    | (go_at_call 75; refine (nil_75 _).mono ?_; rintro e wx ⟨rfl, rfl⟩)
    | (go_at_call 76; refine (nil_76 _).mono ?_; rintro e wx ⟨rfl, rfl⟩)
    | (go_at_call 77; refine (nil_77 _).mono ?_; rintro e wx ⟨rfl, rfl⟩)
    | (go_at_call 78; refine (nil_78 _).mono ?_; rintro e wx ⟨rfl, rfl⟩)
    | (go_at_call 79; refine (nil_79 _).mono ?_; rintro e wx ⟨rfl, rfl⟩)
    | (go_at_call 80; refine (nil_80 _).mono ?_; rintro e wx ⟨rfl, rfl⟩)
    | (go_at_call 81; refine (nil_81 _).mono ?_; rintro e wx ⟨rfl, rfl⟩)
    | (go_at_call 82; refine (nil_82 _).mono ?_; rintro e wx ⟨rfl, rfl⟩)
    | (go_at_call 83; refine (nil_83 _).mono ?_; rintro e wx ⟨rfl, rfl⟩)
    | (go_at_call 84; refine (nil_84 _).mono ?_; rintro e wx ⟨rfl, rfl⟩)
    | (go_at_call 85; refine (nil_85 _).mono ?_; rintro e w3 ⟨rfl, hb3⟩; have hcell3 := (hb3.block B (block_lt_of_cell q0)).trans HCell2.out; obtain ⟨-, -, -, -, -, -, -, -, -, -, -, -, -, -, -, -, -, -, -, -, -, -, -, -, -, -, -, -, -, r29, r30, r31⟩ := book_cells hcell3; have HB3 := Lib.hid hb3; clear hb3 hcell3)
    | (go_at_call 86; refine (nil_86 _).mono ?_; rintro e wx ⟨rfl, rfl⟩)
    | (go_at_call 87; refine (nil_87 _).mono ?_; rintro e wx ⟨rfl, rfl⟩))
  go_ret
  have hs1 := HO1.out.size
  have hs2 := HO2.out.size
  exact ⟨rfl, ((HO1.out.below hb HB.out.bytes.low).trans (HO2.out.below (Nat.le_trans hb hs1) HI1.out.low)).trans (HB3.out.mono (by omega))⟩
end Go.Proofs.Ytnplcfgjidolbaa
end
section
namespace Go.Proofs.Ytnplcfgjidolbaa
open Go.RowKit

theorem own_block_ne {w : World} {base : Nat} {e : TypeId} {s : Nat} {v : Value} {n : Nat} {xs : List Value} (h : w.ownsRow base e s v n xs) {B : Nat} {cs : Array Value} {t : TypeId} {fr : Nat × Nat} (hB : w.heap[B]? = some (.cells cs t fr)) (hne : e ≠ t) : v.ownBlock ≠ some B := by
  intro e1
  obtain ⟨_, ⟨rfl, _⟩ | ⟨g, c, cur, rfl, _, hh, _⟩⟩ := h
  · cases e1
  · have e2 : g = B := by injection e1
    rw [e2, hB] at hh
    injection hh with hh
    injection hh with _ hh
    exact hne hh.symm
theorem heap_lt {w : World} {B : Nat} {o : Obj} (h : w.heap[B]? = some o) : B < w.heap.size := by
  rcases Nat.lt_or_ge B w.heap.size with h2 | h2
  · exact h2
  · rw [Array.getElem?_eq_none h2] at h; cases h

theorem Apt.snoc {vs : List Value} {v : Value} (h : Apt vs) (hv : ∀ u ∈ vs, ∀ k, u.ownBlock = some k → v.ownBlock ≠ some k) : Apt (vs ++ [v]) := by
  have last : ∀ (j : Nat) (u : Value), (vs ++ [v])[j]? = some u → (vs[j]? = some u ∧ j < vs.length) ∨ (j = vs.length ∧ u = v) := by
    intro j u hu
    by_cases hj : j < vs.length
    · rw [List.getElem?_append_left hj] at hu; exact .inl ⟨hu, hj⟩
    · rw [List.getElem?_append_right (by omega)] at hu
      rcases Nat.eq_zero_or_pos (j - vs.length) with h0 | h0
      · rw [h0] at hu; simp at hu; exact .inr ⟨by omega, hu.symm⟩
      · rw [List.getElem?_eq_none (by simp; omega)] at hu; cases hu
  intro i j a b ha hb hij k hk hk2
  rcases last i a ha with ⟨h1, _⟩ | ⟨h1, rfl⟩
  · rcases last j b hb with ⟨h2, _⟩ | ⟨h2, rfl⟩
    · exact h i j a b h1 h2 hij k hk hk2
    · exact hv a (List.mem_of_getElem? h1) k hk hk2
  · rcases last j b hb with ⟨h2, _⟩ | ⟨h2, rfl⟩
    · exact hv b (List.mem_of_getElem? h2) k hk2 hk
    · omega

set_option maxRecDepth 100000 in
theorem bookBytes_any (w : World) (base B : Nat) (vb : Value) (vs : List Value) (ln : Nat → Nat) (vi : Value) (us : List Value) (lm : Nat → Nat) (v : Value) (n : Nat) (xs : List Value) (h : Book w base B vb vs ln vi us lm) (hv : w.ownsRow base 5 1 v n xs)
    (hfr : ∀ u ∈ vs, ∀ k, u.ownBlock = some k → v.ownBlock ≠ some k) (hN : vs.length < 1000000000) (hb : base ≤ w.heap.size) :
    Calls Try.prog 20 #[.pointer (some ⟨B, 0, none⟩), v] w fun e w' => e = .returned (.tuple #[]) ∧ ∃ vb', Book w' base B vb' (vs ++ [v]) (fun j => if j = vs.length then n else ln j) vi us lm ∧ Gro B vb.ownBlock w w' ∧ Anew w vb.ownBlock vb'.ownBlock := by
  obtain ⟨i1, hi1, hy0, hy1, hy2⟩ := info_parts info22
  have c0 := (book_cells h.cell).1
  have hBl := heap_lt h.cell
  have hvbB := own_block_ne h.bytes.row h.cell (by decide)
  obtain ⟨av, cv, rfl⟩ := own_slice hv
  have HB := Lib.hid h
  have HV := Lib.hid hv
  clear h hv
  go_enter Try.func20, Try.ntmps20
  go_wp2_with (at_builtin; refine wpList_append_stay _ rfl (.tmp 8) (.tmp 10) 43 rfl base 22 i1 (.slice none 0 0) 24 und43 hi1 hy0 hy1 hy2 rfl vb vs.length _ rfl (HB.out.bytes.row.alloc _) ⟨w.heap.size, 0, none⟩ 1 (.slice av n cv) rfl (news_alloc w [.slice av n cv] 22) rfl (by unfold maxLen; omega) (by omega) (by simp; omega) ?_; intro g cap w1 hown1 hst1 hgl; have hcell1 := (hst1.grown.block B (by simp; omega) (fun e => hvbB e.symm)).trans ((Below.heap_alloc w _ B hBl).trans HB.out.cell); have d0 := (book_cells hcell1).1; have dz : w1.frozen? ⟨B, 0, none⟩ = false := frozen_of_row _ _ _ _ _ hcell1; have HO1 := Lib.hid hown1; have HS1 := Lib.hid hst1; have HC1 := Lib.hid hcell1; clear hown1 hst1 hcell1 hgl)
  go_end0
  have hgr := grown_alloc HS1.out.grown
  have hgB : g ≠ B := fun e => own_block_ne HO1.out HC1.out (by decide) (by rw [e]; rfl)
  have key : ∀ {e : TypeId} {u : Value} {m : Nat} {zs : List Value}, w.ownsRow base e 1 u m zs → e ≠ 22 → e ≠ 76 → (w1.setCell ⟨B, 0, none⟩ (.slice (some ⟨g, 0, none⟩) (vs.length + 1) cap)).ownsRow base e 1 u m zs := by
    intro e u m zs hu h1 h2
    have hu1 : w1.ownsRow base e 1 u m zs := hu.kept hgr (by
      rcases hub : u.ownBlock with _ | k
      · exact .inl rfl
      · exact .inr (fun e1 => own_apart hu HB.out.bytes.row h1 k hub e1.symm))
    refine own_of_same hu1 (fun k hk => heap_setCell_other _ _ _ _ (fun e1 => ?_))
    exact own_block_ne hu1 HC1.out h2 (by rw [hk, e1])
  have hown2 : (w1.setCell ⟨B, 0, none⟩ (.slice (some ⟨g, 0, none⟩) (vs.length + 1) cap)).ownsRow base 22 1 (.slice (some ⟨g, 0, none⟩) (vs.length + 1) cap) (vs.length + 1) (vs ++ [.slice av n cv]) :=
    own_of_same HO1.out (fun k hk => heap_setCell_other _ _ _ _ (by injection hk with hk; exact fun e => hgB (hk.trans e)))
  refine ⟨rfl, .slice (some ⟨g, 0, none⟩) (vs.length + 1) cap, ⟨?_, ?_, ?_, HB.out.apt.snoc hfr, HB.out.apti⟩, ?_, ?_⟩
  · rw [heap_setCell_same _ _ _ _ _ _ HC1.out]; rfl
  · refine Bk.start (by rw [List.length_append]; exact hown2) (fun j u hu => ?_)
    by_cases hj : j < vs.length
    · rw [List.getElem?_append_left hj] at hu
      obtain ⟨zs, hz, _⟩ := HB.out.bytes.rows j u hu
      refine ⟨zs, ?_⟩
      rw [if_neg (by omega)]
      exact key hz (by decide) (by decide)
    · rw [List.getElem?_append_right (by omega)] at hu
      rcases Nat.eq_zero_or_pos (j - vs.length) with h0 | h0
      · rw [h0] at hu
        simp at hu
        subst hu
        refine ⟨xs, ?_⟩
        rw [if_pos (by omega)]
        exact key HV.out (by decide) (by decide)
      · rw [List.getElem?_eq_none (by simp; omega)] at hu; cases hu
  · exact Bk.start (key HB.out.ints.row (by decide) (by decide)) (fun j u hu => by obtain ⟨zs, hz, _⟩ := HB.out.ints.rows j u hu; exact ⟨zs, key hz (by decide) (by decide)⟩)
  · refine ⟨hgr.os, hgr.tape, hgr.output, by simpa using hgr.size, fun k hk h1 h2 => ?_⟩
    rw [heap_setCell_other _ _ _ _ h1]
    exact hgr.block k hk h2
  · intro k hk
    injection hk with hk
    have hk2 : g = k := hk
    rcases HS1.out with ⟨h1, _⟩ | ⟨h1, _⟩
    · left; rw [h1]; exact congrArg some hk2
    · right; rw [← hk2, h1]; simp
end Go.Proofs.Ytnplcfgjidolbaa
end
