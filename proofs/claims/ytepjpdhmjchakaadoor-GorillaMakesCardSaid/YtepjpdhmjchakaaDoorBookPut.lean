/- A list is put into the book. -/
import Derived.Test.YtepjpdhmjchakaaDoorOwnBook
namespace Go.Proofs.YtepjpdhmjchakaaDoor
open Go.RowKit

theorem own_block_ne {w : World} {base : Nat} {e : TypeId} {s : Nat} {v : Value} {n : Nat} {xs : List Value} (h : w.ownsRow base e s v n xs) {B : Nat} {cs : Array Value} {t : TypeId} {fr : Nat × Nat} (hB : w.heap[B]? = some (.cells cs t fr)) (hne : e ≠ t) : v.ownBlock ≠ some B := by
  intro e1
  obtain ⟨_, ⟨rfl, _⟩ | ⟨g, c, cur, rfl, _, hh, _⟩⟩ := h
  · cases e1
  · have e2 : g = B := by injection e1
    rw [e2, hB] at hh
    injection hh with hh
    injection hh with _ hh
    exact hne hh.symm
theorem Apt.snoc {vs : List Value} {v : Value} (h : Apt vs) (hv : ∀ u ∈ vs, ∀ k, u.ownBlock = some k → v.ownBlock ≠ some k) : Apt (vs ++ [v]) := by
  have last : ∀ (j : Nat) (u : Value), (vs ++ [v])[j]? = some u → (vs[j]? = some u ∧ j < vs.length) ∨ (j = vs.length ∧ u = v) := by
    intro j u hu
    by_cases hj : j < vs.length
    · rw [List.getElem?_append_left hj] at hu; exact .inl ⟨hu, hj⟩
    · rw [List.getElem?_append_right (by omega)] at hu
      rcases Nat.eq_zero_or_pos (j - vs.length) with h0 | h0
      · rw [h0] at hu; simp at hu; exact .inr ⟨by omega, hu.symm⟩
      · rw [List.getElem?_eq_none (by simp; omega)] at hu; cases hu
  intro i j a b ha hb hij k hk hk2
  rcases last i a ha with ⟨h1, _⟩ | ⟨h1, rfl⟩
  · rcases last j b hb with ⟨h2, _⟩ | ⟨h2, rfl⟩
    · exact h i j a b h1 h2 hij k hk hk2
    · exact hv a (List.mem_of_getElem? h1) k hk hk2
  · rcases last j b hb with ⟨h2, _⟩ | ⟨h2, rfl⟩
    · exact hv b (List.mem_of_getElem? h2) k hk2 hk
    · omega

set_option maxRecDepth 100000 in
theorem bookBytes_any (w : World) (base B : Nat) (vb : Value) (vs : List Value) (ln : Nat → Nat) (v : Value) (n : Nat) (xs : List Value) (h : Book w base B vb vs ln) (hv : w.ownsRow base 5 1 v n xs)
    (hfr : ∀ u ∈ vs, ∀ k, u.ownBlock = some k → v.ownBlock ≠ some k) (hN : vs.length < 1000000000) (hb : base ≤ w.heap.size) :
    Calls Tryd.prog 12 #[.pointer (some ⟨B, 0, none⟩), v] w fun e w' => e = .returned (.tuple #[]) ∧ ∃ vb', Book w' base B vb' (vs ++ [v]) (fun j => if j = vs.length then n else ln j) ∧ Gro B vb.ownBlock w w' ∧ Anew w vb.ownBlock vb'.ownBlock := by
  obtain ⟨i1, hi1, hy0, hy1, hy2⟩ := info_parts infoB
  have c0 := (book_cells h.cell).1
  have hBl := heap_lt h.cell
  have hvbB := own_block_ne h.bytes.row h.cell (by decide)
  obtain ⟨av, cv, rfl⟩ := own_slice hv
  have HB := Lib.hid h
  have HV := Lib.hid hv
  clear h hv
  go_enter Tryd.func12, Tryd.ntmps12
  go_wp2_with (at_builtin; refine wpList_append_stay _ rfl (.tmp 8) (.tmp 10) 30 rfl base 71 i1 (.slice none 0 0) 24 undS hi1 hy0 hy1 hy2 rfl vb vs.length _ rfl (HB.out.bytes.row.alloc _) ⟨w.heap.size, 0, none⟩ 1 (.slice av n cv) rfl (news_alloc w [.slice av n cv] 71) rfl (by unfold maxLen; omega) (by omega) (by simp; omega) ?_; intro g cap w1 hown1 hst1 hgl; have hcell1 := (hst1.grown.block B (by simp; omega) (fun e => hvbB e.symm)).trans ((Below.heap_alloc w _ B hBl).trans HB.out.cell); have d0 := (book_cells hcell1).1; have dz : w1.frozen? ⟨B, 0, none⟩ = false := frozen_of_row _ _ _ _ _ hcell1; have HO1 := Lib.hid hown1; have HS1 := Lib.hid hst1; have HC1 := Lib.hid hcell1; clear hown1 hst1 hcell1 hgl)
  go_end0
  have hgr := grown_alloc HS1.out.grown
  have hgB : g ≠ B := fun e => own_block_ne HO1.out HC1.out (by decide) (by rw [e]; rfl)
  have key : ∀ {e : TypeId} {u : Value} {m : Nat} {zs : List Value}, w.ownsRow base e 1 u m zs → e ≠ 71 → e ≠ 63 → (w1.setCell ⟨B, 0, none⟩ (.slice (some ⟨g, 0, none⟩) (vs.length + 1) cap)).ownsRow base e 1 u m zs := by
    intro e u m zs hu h1 h2
    have hu1 : w1.ownsRow base e 1 u m zs := hu.kept hgr (by
      rcases hub : u.ownBlock with _ | k
      · exact .inl rfl
      · exact .inr (fun e1 => own_apart hu HB.out.bytes.row h1 k hub e1.symm))
    refine own_of_same hu1 (fun k hk => heap_setCell_other _ _ _ _ (fun e1 => ?_))
    exact own_block_ne hu1 HC1.out h2 (by rw [hk, e1])
  have hown2 : (w1.setCell ⟨B, 0, none⟩ (.slice (some ⟨g, 0, none⟩) (vs.length + 1) cap)).ownsRow base 71 1 (.slice (some ⟨g, 0, none⟩) (vs.length + 1) cap) (vs.length + 1) (vs ++ [.slice av n cv]) :=
    own_of_same HO1.out (fun k hk => heap_setCell_other _ _ _ _ (by injection hk with hk; exact fun e => hgB (hk.trans e)))
  refine ⟨rfl, .slice (some ⟨g, 0, none⟩) (vs.length + 1) cap, ⟨?_, ?_, HB.out.apt.snoc hfr⟩, ?_, ?_⟩
  · rw [heap_setCell_same _ _ _ _ _ _ HC1.out]; rfl
  · refine Bk.start (by rw [List.length_append]; exact hown2) (fun j u hu => ?_)
    by_cases hj : j < vs.length
    · rw [List.getElem?_append_left hj] at hu
      obtain ⟨zs, hz, _⟩ := HB.out.bytes.rows j u hu
      refine ⟨zs, ?_⟩
      rw [if_neg (by omega)]
      exact key hz (by decide) (by decide)
    · rw [List.getElem?_append_right (by omega)] at hu
      rcases Nat.eq_zero_or_pos (j - vs.length) with h0 | h0
      · rw [h0] at hu
        simp at hu
        subst hu
        refine ⟨xs, ?_⟩
        rw [if_pos (by omega)]
        exact key HV.out (by decide) (by decide)
      · rw [List.getElem?_eq_none (by simp; omega)] at hu; cases hu
  · refine ⟨hgr.os, hgr.tape, hgr.output, by simpa using hgr.size, fun k hk h1 h2 => ?_⟩
    rw [heap_setCell_other _ _ _ _ h1]
    exact hgr.block k hk h2
  · intro k hk
    injection hk with hk
    have hk2 : g = k := hk
    rcases HS1.out with ⟨h1, _⟩ | ⟨h1, _⟩
    · left; rw [h1]; exact congrArg some hk2
    · right; rw [← hk2, h1]; simp
end Go.Proofs.YtepjpdhmjchakaaDoor
