/- The book's rows: what holds of them while they are marked, lengthened and looked at. -/
import Derived.Test.YtepjpdhmjchakaaDoorOwnApp
import Derived.Test.YtepjpdhmjchakaaDoorGz7
namespace Go.Proofs.YtepjpdhmjchakaaDoor
open Go.RowKit

/-- What may have turned: the rows' blocks, and what is new. -/
structure Oth (vs : List Value) (w w' : World) : Prop where
  os : w'.os = w.os
  tape : w'.tape = w.tape
  output : w'.output = w.output
  size : w.heap.size ≤ w'.heap.size
  block : ∀ k, k < w.heap.size → (∀ v ∈ vs, v.ownBlock ≠ some k) → w'.heap[k]? = w.heap[k]?
theorem Oth.refl (vs : List Value) (w : World) : Oth vs w w := ⟨rfl, rfl, rfl, Nat.le_refl _, fun _ _ _ => rfl⟩
theorem Oth.below {vs : List Value} {w w' : World} {B : Nat} (h : Oth vs w w') (hB : B ≤ w.heap.size) (hv : ∀ v ∈ vs, ∀ k, v.ownBlock = some k → B ≤ k) : Below B w w' :=
  ⟨h.os, h.tape, h.output, h.size, fun k hk => h.block k (by omega) (fun v hm e => by have := hv v hm k e; omega)⟩

/-- The list of rows, and of each row what F says. -/
structure Bk (E e : TypeId) (w0 w : World) (base : Nat) (vb : Value) (vs : List Value) (ln : Nat → Nat) (F : Nat → List Value → Prop) : Prop where
  row : w.ownsRow base E 1 vb vs.length vs
  rows : ∀ (j : Nat) (v : Value), vs[j]? = some v → ∃ xs, w.ownsRow base e 1 v (ln j) xs ∧ F j xs
  oth : Oth vs w0 w
  lb : ∀ k, vb.ownBlock = some k → k < w0.heap.size
  lv : ∀ (j : Nat) (v : Value), vs[j]? = some v → ∀ k, v.ownBlock = some k → k < w0.heap.size

section
variable {E e : TypeId} {w0 w w' : World} {base : Nat} {vb : Value} {vs : List Value} {ln : Nat → Nat} {F F' : Nat → List Value → Prop}
theorem Bk.weak (h : Bk E e w0 w base vb vs ln F) (hF : ∀ j xs, xs.length = ln j → F j xs → F' j xs) : Bk E e w0 w base vb vs ln F' :=
  ⟨h.row, fun j v hv => by obtain ⟨xs, h1, h2⟩ := h.rows j v hv; exact ⟨xs, h1, hF j xs (by simpa using h1.1) h2⟩, h.oth, h.lb, h.lv⟩
/-- A change of one row's block, or of a new one. -/
theorem Bk.turn (hE : E ≠ e) (h : Bk E e w0 w base vb vs ln F) {r : Option Nat} (g : w.grownBy w' r) (hr : ∀ k, r = some k → (∃ v ∈ vs, v.ownBlock = some k) ∨ w0.heap.size ≤ k)
    (hn : ∀ (j : Nat) (v : Value), vs[j]? = some v → (v.ownBlock = none ∨ v.ownBlock ≠ r) ∨ ∃ xs, w'.ownsRow base e 1 v (ln j) xs ∧ F j xs) : Bk E e w0 w' base vb vs ln F := by
  refine ⟨?_, fun j v hv => ?_, ?_, h.lb, h.lv⟩
  · refine h.row.kept g ?_
    rcases hvb : vb.ownBlock with _ | k
    · exact .inl rfl
    · refine .inr (fun e1 => ?_)
      rcases hr k e1.symm with ⟨v, hm, hk⟩ | hk
      · obtain ⟨j, hj⟩ := List.getElem?_of_mem hm
        obtain ⟨xs, h1, _⟩ := h.rows j v hj
        exact own_apart h.row h1 hE k hvb hk
      · have := h.lb k hvb; omega
  · rcases hn j v hv with hk | hk
    · obtain ⟨xs, h1, h2⟩ := h.rows j v hv
      exact ⟨xs, h1.kept g hk, h2⟩
    · exact hk
  · refine ⟨g.os.trans h.oth.os, g.tape.trans h.oth.tape, g.output.trans h.oth.output, Nat.le_trans h.oth.size g.size, fun k hk hv => ?_⟩
    rw [g.block k (Nat.lt_of_lt_of_le hk h.oth.size) (fun e1 => ?_)]
    · exact h.oth.block k hk hv
    · rcases hr k e1.symm with ⟨v, hm, hk2⟩ | hk2
      · exact hv v hm hk2
      · omega
theorem Bk.fresh (hE : E ≠ e) (h : Bk E e w0 w base vb vs ln F) {r : Option Nat} (g : w.grownBy w' r) (hr : ∀ k, r = some k → w0.heap.size ≤ k) : Bk E e w0 w' base vb vs ln F :=
  h.turn hE g (fun k hk => .inr (hr k hk)) (fun j v hv => .inl (by
    rcases hvb : v.ownBlock with _ | k
    · exact .inl rfl
    · refine .inr (fun e1 => ?_)
      have := hr k e1.symm
      have := h.lv j v hv k hvb
      omega))
/-- A store into the row i. -/
theorem Bk.store (hE : E ≠ e) (hap : Apt vs) (h : Bk E e w0 w base vb vs ln F) {i g n cap k : Nat} {u : Value} (hi : vs[i]? = some (.slice (some ⟨g, 0, none⟩) n cap)) (hF : ∀ xs, F i xs → xs.length = ln i → F' i (xs.set k u)) (hF2 : ∀ j xs, j ≠ i → F j xs → F' j xs) :
    Bk E e w0 (w.setCell ⟨g, k, none⟩ u) base vb vs ln F' := by
  obtain ⟨xs, h1, h2⟩ := h.rows i _ hi
  have hn : n = ln i := by
    rcases h1.2 with ⟨h3, _⟩ | ⟨_, _, _, h3, _⟩
    · cases h3
    · simp at h3; exact h3.2.1
  subst hn
  have hs := h1.stored k u
  have h3 : Bk E e w0 w base vb vs ln (fun j xs => (j ≠ i → F' j xs) ∧ (j = i → F j xs)) := h.weak (fun j xs _ hx => ⟨fun hj => hF2 j xs hj hx, fun _ => hx⟩)
  have h4 : Bk E e w0 (w.setCell ⟨g, k, none⟩ u) base vb vs ln (fun j xs => F' j xs ∨ (j = i ∧ False)) := by
    refine ⟨?_, fun j v hv => ?_, ?_, h.lb, h.lv⟩
    · refine h.row.kept hs.2 ?_
      rcases hvb : vb.ownBlock with _ | k'
      · exact .inl rfl
      · exact .inr (fun e1 => own_apart h.row h1 hE k' hvb e1.symm)
    · by_cases hj : j = i
      · subst hj
        rw [hi] at hv
        injection hv with hv
        subst hv
        exact ⟨_, hs.1, .inl (hF xs h2 (by simpa using h1.1))⟩
      · obtain ⟨ys, k1, k2⟩ := h.rows j v hv
        refine ⟨ys, k1.kept hs.2 ?_, .inl (hF2 j ys hj k2)⟩
        rcases hvb : v.ownBlock with _ | k'
        · exact .inl rfl
        · exact .inr (fun e1 => hap j i v _ hv hi hj k' hvb e1.symm)
    · refine ⟨hs.2.os.trans h.oth.os, hs.2.tape.trans h.oth.tape, hs.2.output.trans h.oth.output, Nat.le_trans h.oth.size hs.2.size, fun k' hk hv => ?_⟩
      rw [hs.2.block k' (Nat.lt_of_lt_of_le hk h.oth.size) (fun e1 => hv _ (List.mem_of_getElem? hi) e1.symm)]
      exact h.oth.block k' hk hv
  exact h4.weak (fun j xs _ hx => by rcases hx with hx | ⟨_, hx⟩; exact hx; exact hx.elim)
end

/-- The marks of a row, and those behind it. -/
def marks (p : Nat → Nat → Value) (i n : Nat) : List Value := (List.range n).map (p i)
theorem marks_len (p : Nat → Nat → Value) (i n : Nat) : (marks p i n).length = n := by simp [marks]
theorem marks_get (p : Nat → Nat → Value) (i n k : Nat) (h : k < n) : (marks p i n)[k]? = some (p i k) := by simp [marks, h]
theorem marks_succ (p : Nat → Nat → Value) (i n : Nat) : marks p i (n + 1) = marks p i n ++ [p i n] := by simp [marks, List.range_succ]
/-- Rows ahead of i are marked, the row i up to k. -/
def upTo (p : Nat → Nat → Value) (ln : Nat → Nat) (i k j : Nat) (xs : List Value) : Prop := (j < i → xs = marks p j (ln j)) ∧ (j = i → xs.take k = marks p i k)
theorem upTo_zero (p : Nat → Nat → Value) (ln : Nat → Nat) (j : Nat) (xs : List Value) : upTo p ln 0 0 j xs := ⟨fun h => absurd h (by omega), fun _ => by simp [marks]⟩
theorem upTo_next {p : Nat → Nat → Value} {ln : Nat → Nat} {i j : Nat} {xs : List Value} (h : upTo p ln i (ln i) j xs) (hl : xs.length = ln j) : upTo p ln (i + 1) 0 j xs := by
  refine ⟨fun hj => ?_, fun _ => by simp [marks]⟩
  by_cases e : j = i
  · subst e
    have := h.2 rfl
    rwa [List.take_of_length_le (by omega)] at this
  · exact h.1 (by omega)
theorem upTo_set {p : Nat → Nat → Value} {ln : Nat → Nat} {i k : Nat} {xs : List Value} (h : upTo p ln i k i xs) (hl : xs.length = ln i) (hk : k < ln i) : upTo p ln i (k + 1) i (xs.set k (p i k)) := by
  refine ⟨fun hj => absurd hj (by omega), fun _ => ?_⟩
  have h2 := h.2 rfl
  rw [marks_succ, ← h2, List.take_succ_eq_append_getElem (by simp; omega)]
  simp [List.take_set_of_le]
theorem upTo_other {p : Nat → Nat → Value} {ln : Nat → Nat} {i k k' j : Nat} {xs : List Value} (h : upTo p ln i k j xs) (hj : j ≠ i) : upTo p ln i k' j xs := ⟨h.1, fun e => absurd e hj⟩

/-- The lengthened rows. -/
structure Lg (E e : TypeId) (w0 w : World) (base : Nat) (vs : List Value) (ln : Nat → Nat) (p t : Nat → Nat → Value) (lv : Value) (i : Nat) (ys : List Value) : Prop where
  row : w.ownsRow w0.heap.size E 1 lv i ys
  rows : ∀ (j : Nat) (y v : Value), ys[j]? = some y → vs[j]? = some v → w.ownsRow base e 1 y (ln j + 16) (marks p j (ln j) ++ marks t j 16) ∧ (y.ownBlock = v.ownBlock ∨ ∀ k, y.ownBlock = some k → w0.heap.size ≤ k)

section
variable {E e : TypeId} {w0 w w' : World} {base : Nat} {vb : Value} {vs ys : List Value} {ln : Nat → Nat} {F F' : Nat → List Value → Prop} {p t : Nat → Nat → Value} {lv : Value} {i : Nat}
theorem Lg.nil (w0 w : World) : Lg E e w0 w base vs ln p t (.slice none 0 0) 0 [] := ⟨World.ownsRow_nil _ _ _ _, fun j y v h => by simp at h⟩
theorem Lg.len (h : Lg E e w0 w base vs ln p t lv i ys) : ys.length = i := by simpa using h.row.1
/-- A change of a block that none of them has. -/
theorem Lg.turn (h : Lg E e w0 w base vs ln p t lv i ys) {r : Option Nat} (g : w.grownBy w' r) (h1 : ∀ k, r = some k → lv.ownBlock ≠ some k) (h2 : ∀ y ∈ ys, ∀ k, r = some k → y.ownBlock ≠ some k) : Lg E e w0 w' base vs ln p t lv i ys := by
  have key : ∀ v : Value, (∀ k, r = some k → v.ownBlock ≠ some k) → v.ownBlock = none ∨ v.ownBlock ≠ r := fun v hv => by
    rcases hvb : v.ownBlock with _ | k
    · exact .inl rfl
    · exact .inr (fun e1 => hv k e1.symm hvb)
  exact ⟨h.row.kept g (key _ h1), fun j y v hy hv => by
    obtain ⟨k1, k2⟩ := h.rows j y v hy hv
    exact ⟨k1.kept g (key _ (h2 y (List.mem_of_getElem? hy))), k2⟩⟩
/-- One more. -/
theorem Lg.snoc (h : Lg E e w0 w base vs ln p t lv i ys) (hE : E ≠ e) {w2 : World} {lv' x : Value} (hrow : w2.ownsRow w0.heap.size E 1 lv' (i + 1) (ys ++ [x])) (g : w.grownBy w2 lv.ownBlock) (hx : w.ownsRow base e 1 x (ln i + 16) (marks p i (ln i) ++ marks t i 16))
    {v : Value} (hv : vs[i]? = some v) (hxb : x.ownBlock = v.ownBlock ∨ ∀ k, x.ownBlock = some k → w0.heap.size ≤ k) : Lg E e w0 w2 base vs ln p t lv' (i + 1) (ys ++ [x]) := by
  have hl := h.len
  have key : ∀ (y : Value) n zs, w.ownsRow base e 1 y n zs → w2.ownsRow base e 1 y n zs := fun y n zs hy => hy.kept g (by
    rcases hvb : y.ownBlock with _ | k
    · exact .inl rfl
    · exact .inr (fun e1 => own_apart h.row hy hE k e1.symm hvb))
  refine ⟨hrow, fun j y u hy hu => ?_⟩
  by_cases hj : j < ys.length
  · rw [List.getElem?_append_left hj] at hy
    obtain ⟨k1, k2⟩ := h.rows j y u hy hu
    exact ⟨key _ _ _ k1, k2⟩
  · rw [List.getElem?_append_right (by omega)] at hy
    have hj2 : j = i := by
      rcases Nat.eq_zero_or_pos (j - ys.length) with h0 | h0
      · omega
      · rw [List.getElem?_eq_none (by simp; omega)] at hy; cases hy
    subst hj2
    rw [hl, Nat.sub_self] at hy
    simp at hy
    subst hy
    rw [hv] at hu
    injection hu with hu
    subst hu
    exact ⟨key _ _ _ hx, hxb⟩
end

theorem grown_alloc {w w1 : World} {o : Obj} {r : Option Nat} (g : (w.alloc o).grownBy w1 r) : w.grownBy w1 r :=
  ⟨g.os, g.tape, g.output, by have := g.size; simp at this; omega, fun k hk hr => (g.block k (by simp; omega) hr).trans (Below.heap_alloc _ _ _ hk)⟩
theorem Stay.grown {w w' : World} {v : Value} {n g c : Nat} (h : Stay w w' v n g c) : w.grownBy w' v.ownBlock := by
  rcases h with ⟨rfl, h⟩ | ⟨_, h⟩
  · exact h
  · exact ⟨h.os, h.tape, h.output, h.size, fun k hk _ => h.block k hk (by simp)⟩

/-- One more element behind a row: in its own room, or in a new block. -/
theorem stay_step {E e : TypeId} {w0 wr w1 : World} {o : Obj} {base : Nat} {vb v x lv u : Value} {vs ys : List Value} {ln : Nat → Nat} {p t : Nat → Nat → Value} {i m g cap Wi : Nat} (hE : E ≠ e) (hap : Apt vs)
    (hbk : Bk E e w0 wr base vb vs ln (fun j xs => xs = marks p j (ln j))) (hlg : Lg E e w0 wr base vs ln p t lv i ys) (hv : vs[i]? = some v)
    (hx : wr.ownsRow base e 1 x (ln i + m) (marks p i (ln i) ++ marks t i m)) (hxb : x.ownBlock = v.ownBlock ∨ ∀ k, x.ownBlock = some k → Wi ≤ k) (hy : ∀ y ∈ ys, ∀ k, y.ownBlock = some k → k < Wi) (hW : Wi ≤ wr.heap.size) (hW0 : w0.heap.size ≤ Wi)
    (hown : w1.ownsRow base e 1 (.slice (some ⟨g, 0, none⟩) (ln i + m + 1) cap) (ln i + m + 1) ((marks p i (ln i) ++ marks t i m) ++ [u])) (hst : Stay (wr.alloc o) w1 x (ln i + m) g cap) :
    Bk E e w0 w1 base vb vs ln (fun j xs => xs = marks p j (ln j)) ∧ Lg E e w0 w1 base vs ln p t lv i ys ∧ ((Value.slice (some ⟨g, 0, none⟩) (ln i + m + 1) cap).ownBlock = v.ownBlock ∨ ∀ k, (Value.slice (some ⟨g, 0, none⟩) (ln i + m + 1) cap).ownBlock = some k → Wi ≤ k) ∧ Wi ≤ w1.heap.size := by
  have hgr := grown_alloc hst.grown
  refine ⟨?_, ?_, ?_, Nat.le_trans hW hgr.size⟩
  · rcases hst with ⟨rfl, hs⟩ | ⟨hg, hs⟩
    · have hs' := grown_alloc hs
      rcases hxb with hxb | hxb
      · refine hbk.turn hE hs' (fun k hk => .inl ⟨v, List.mem_of_getElem? hv, by rw [← hxb, ← hk]; rfl⟩) (fun j v' hv' => ?_)
        by_cases hj : j = i
        · subst hj
          rw [hv] at hv'
          injection hv' with hv'
          subst hv'
          obtain ⟨xs, k1, rfl⟩ := hbk.rows j v hv
          right
          rcases k1.2 with ⟨rfl, _⟩ | ⟨g1, c1, cur1, rfl, _⟩
          · cases hxb
          · have hgg : g = g1 := by injection hxb
            subst hgg
            have hc := own_cap hx k1
            subst hc
            refine ⟨_, own_prefix (m := m + 1) (by rw [← Nat.add_assoc]; exact hown), ?_⟩
            rw [List.append_assoc, List.take_append_of_le_length (by rw [marks_len]; exact Nat.le_refl _), List.take_of_length_le (by rw [marks_len]; exact Nat.le_refl _)]
        · left
          rcases hvb : v'.ownBlock with _ | k
          · exact .inl rfl
          · exact .inr (fun e1 => hap j i v' v hv' hv hj k hvb (by rw [← hxb, e1]; rfl))
      · exact hbk.fresh hE hs' (fun k hk => Nat.le_trans hW0 (hxb k hk))
    · exact hbk.fresh hE (grown_alloc hs) (fun k hk => by cases hk)
  · rcases hst with ⟨rfl, hs⟩ | ⟨hg, hs⟩
    · refine hlg.turn (grown_alloc hs) (fun k hk e1 => own_apart hlg.row hx hE k e1 hk) (fun y hym k hk e1 => ?_)
      rcases hxb with hxb | hxb
      · obtain ⟨j, hj⟩ := List.getElem?_of_mem hym
        have hjl : j < i := by
          have := (List.getElem?_eq_some_iff.1 hj).1
          have := hlg.len
          omega
        have hil : i < vs.length := (List.getElem?_eq_some_iff.1 hv).1
        have hvj : vs[j]? = some vs[j] := List.getElem?_eq_getElem (by omega)
        obtain ⟨_, k2⟩ := hlg.rows j y _ hj hvj
        rcases k2 with k2 | k2
        · exact hap j i _ v hvj hv (by omega) k (by rw [← k2]; exact e1) (by rw [← hxb]; exact hk)
        · have h1 := k2 k e1
          have h2 := hbk.lv i v hv k (by rw [← hxb]; exact hk)
          omega
      · have h1 := hy y hym k e1
        have h2 := hxb k hk
        omega
    · exact hlg.turn (grown_alloc hs) (fun k hk => by cases hk) (fun y _ k hk => by cases hk)
  · rcases hst with ⟨rfl, hs⟩ | ⟨hg, hs⟩
    · exact hxb
    · right
      intro k hk
      injection hk with hk
      have h1 : wr.heap.size ≤ g := by rw [hg]; simp
      have h2 : k = g := hk.symm
      omega
end Go.Proofs.YtepjpdhmjchakaaDoor
