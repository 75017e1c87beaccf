import Derived.Test.YtepjpdhmjchakaaGreatDoorP12
import Derived.Test.YtepjpdhmjchakaaGreatDoorP1
/- A list of chunks of the call's own. -/
namespace Go.Proofs.YtepjpdhmjchakaaGreatDoor
open Go.RowKit
set_option linter.unusedVariables false

/-- A chunk: first and last time, number of samples, bytes. -/
structure Ck where
  f : Int
  t : Int
  n : Nat
  d : List UInt8
/-- Its four cells; u is its row. -/
def ckc (c : Ck) (u : Value) : List Value := [.int .i64 c.f, .int .i64 c.t, .int .i64 (c.n : Int), u]
def cks (cs : List Ck) (us : List Value) : List Value := (List.zipWith ckc cs us).flatten
theorem cks_snoc {cs : List Ck} {us : List Value} (h : us.length = cs.length) (c : Ck) (u : Value) : cks (cs ++ [c]) (us ++ [u]) = cks cs us ++ ckc c u := by
  unfold cks
  rw [List.zipWith_append h.symm]
  simp
theorem cks_len : ∀ {cs : List Ck} {us : List Value} (h : us.length = cs.length), (cks cs us).length = cs.length * 4
  | [], [], _ => rfl
  | c :: cs, u :: us, h => by
    have := cks_len (cs := cs) (us := us) (by simpa using h)
    simp only [cks, List.zipWith_cons_cons, List.flatten_cons, List.length_append, List.length_cons] at *
    simp only [ckc, List.length_cons, List.length_nil]
    omega
  | [], _ :: _, h => by simp at h
  | _ :: _, [], h => by simp at h
/-- Rows that lie apart. -/
def Apt (vs : List Value) : Prop := ∀ (i j : Nat) (u v : Value), vs[i]? = some u → vs[j]? = some v → i ≠ j → ∀ k, u.ownBlock = some k → v.ownBlock ≠ some k

structure CRow (w : World) (base : Nat) (v : Value) (us : List Value) (cs : List Ck) : Prop where
  row : w.ownsRow base 26 4 v cs.length (cks cs us)
  len : us.length = cs.length
  each : ∀ (i : Nat) (u : Value) (c : Ck), us[i]? = some u → cs[i]? = some c → w.ownsRow base 5 1 u c.d.length (c.d.map f8)
  apt : Apt us

section
variable {w w' : World} {base base' : Nat} {v : Value} {us : List Value} {cs : List Ck}
theorem CRow.nil (w : World) (base : Nat) : CRow w base (.slice none 0 0) [] [] :=
  ⟨World.ownsRow_nil _ _ _ _, rfl, fun i u r h => by simp at h, fun i j u v h => by simp at h⟩
theorem CRow.at (h : CRow w base v us cs) {i : Nat} {u : Value} (hu : us[i]? = some u) : ∃ c, cs[i]? = some c ∧ w.ownsRow base 5 1 u c.d.length (c.d.map f8) := by
  have hi : i < cs.length := by rw [← h.len]; exact (List.getElem?_eq_some_iff.1 hu).1
  exact ⟨cs[i], List.getElem?_eq_getElem hi, h.each i u _ hu (List.getElem?_eq_getElem hi)⟩
theorem CRow.same (h : CRow w base v us cs) (h0 : ∀ k, v.ownBlock = some k → w'.heap[k]? = w.heap[k]?) (h1 : ∀ u ∈ us, ∀ k, u.ownBlock = some k → w'.heap[k]? = w.heap[k]?) : CRow w' base v us cs :=
  ⟨own_of_same h.row h0, h.len, fun i u r hu hr => own_of_same (h.each i u r hu hr) (h1 u (List.mem_of_getElem? hu)), h.apt⟩
theorem CRow.lt (h : CRow w base v us cs) : (∀ k, v.ownBlock = some k → base ≤ k ∧ k < w.heap.size) ∧ ∀ u ∈ us, ∀ k, u.ownBlock = some k → base ≤ k ∧ k < w.heap.size := by
  refine ⟨h.row.lt, fun u hu k hk => ?_⟩
  obtain ⟨i, hi⟩ := List.getElem?_of_mem hu
  obtain ⟨r, _, h2⟩ := h.at hi
  exact h2.lt k hk
theorem CRow.below {B : Nat} (h : CRow w base v us cs) (hb : Below B w w') (hB : w.heap.size ≤ B) : CRow w' base v us cs :=
  h.same (fun k hk => hb.block k (Nat.lt_of_lt_of_le (h.lt.1 k hk).2 hB)) (fun u hu k hk => hb.block k (Nat.lt_of_lt_of_le (h.lt.2 u hu k hk).2 hB))
theorem CRow.mono (h : CRow w base v us cs) (hb : base' ≤ base) : CRow w base' v us cs :=
  ⟨own_low h.row hb, h.len, fun i u r hu hr => own_low (h.each i u r hu hr) hb, h.apt⟩
theorem own_apart' {w : World} {base base' : Nat} {e e' : TypeId} {size size' : Nat} {v v' : Value} {n n' : Nat} {xs xs' : List Value} (h : w.ownsRow base e size v n xs) (h' : w.ownsRow base' e' size' v' n' xs') (hne : e ≠ e') : ∀ k, v.ownBlock = some k → v'.ownBlock ≠ some k := by
  intro k h1 h2
  obtain ⟨cs, e1⟩ := own_block h k h1
  obtain ⟨cs', e2⟩ := own_block h' k h2
  rw [e1] at e2
  injection e2 with e3
  injection e3 with _ e4
  exact hne e4
/-- One more chunk. -/
theorem CRow.snoc (h : CRow w base v us cs) {u v' : Value} {c : Ck} (hu : w.ownsRow base 5 1 u c.d.length (c.d.map f8)) (hap : ∀ x ∈ us, ∀ k, x.ownBlock = some k → u.ownBlock ≠ some k)
    (hrow : w'.ownsRow base 26 4 v' (cs.length + 1) (cks cs us ++ ckc c u)) (g : w.grownBy w' v.ownBlock) : CRow w' base v' (us ++ [u]) (cs ++ [c]) := by
  have key : ∀ (x : Value) n zs, w.ownsRow base 5 1 x n zs → w'.ownsRow base 5 1 x n zs := fun x n zs hx => hx.kept g (by
    rcases hvb : x.ownBlock with _ | k
    · exact .inl rfl
    · exact .inr (fun e1 => own_apart' h.row hx (by decide) k e1.symm hvb))
  refine ⟨by rw [cks_snoc h.len]; simpa using hrow, by simp [h.len], fun i x q hx hq => ?_, fun i j x y hx hy hij k hk => ?_⟩
  · rcases Nat.lt_trichotomy i us.length with hi | hi | hi
    · rw [List.getElem?_append_left hi] at hx
      rw [List.getElem?_append_left (by rw [← h.len]; exact hi)] at hq
      exact key _ _ _ (h.each i x q hx hq)
    · subst hi
      rw [List.getElem?_append_right (Nat.le_refl _), Nat.sub_self] at hx
      rw [h.len, List.getElem?_append_right (Nat.le_refl _), Nat.sub_self] at hq
      simp at hx hq
      subst hx hq
      exact key _ _ _ hu
    · rw [List.getElem?_eq_none (by simp; omega)] at hx; cases hx
  · have at' : ∀ i x, (us ++ [u])[i]? = some x → (i < us.length ∧ us[i]? = some x) ∨ (i = us.length ∧ x = u) := by
      intro i x hx
      rcases Nat.lt_trichotomy i us.length with hi | hi | hi
      · rw [List.getElem?_append_left hi] at hx; exact .inl ⟨hi, hx⟩
      · subst hi
        rw [List.getElem?_append_right (Nat.le_refl _), Nat.sub_self] at hx
        simp at hx
        exact .inr ⟨rfl, hx.symm⟩
      · rw [List.getElem?_eq_none (by simp; omega)] at hx; cases hx
    rcases at' i x hx with ⟨h1, h2⟩ | ⟨h1, h2⟩ <;> rcases at' j y hy with ⟨h3, h4⟩ | ⟨h3, h4⟩
    · exact h.apt i j x y h2 h4 hij k hk
    · subst h4; exact hap x (List.mem_of_getElem? h2) k hk
    · subst h2; intro e1; exact hap y (List.mem_of_getElem? h4) k e1 hk
    · omega
end
end Go.Proofs.YtepjpdhmjchakaaGreatDoor

/- The book's rows: what holds of them while they are marked, lengthened and looked at. -/
namespace Go.Proofs.YtepjpdhmjchakaaGreatDoor
open Go.RowKit

/-- What may have turned: the rows' blocks, and what is new. -/
structure Oth (vs : List Value) (w w' : World) : Prop where
  os : w'.os = w.os
  tape : w'.tape = w.tape
  output : w'.output = w.output
  size : w.heap.size ≤ w'.heap.size
  block : ∀ k, k < w.heap.size → (∀ v ∈ vs, v.ownBlock ≠ some k) → w'.heap[k]? = w.heap[k]?
theorem Oth.refl (vs : List Value) (w : World) : Oth vs w w := ⟨rfl, rfl, rfl, Nat.le_refl _, fun _ _ _ => rfl⟩
theorem Oth.below {vs : List Value} {w w' : World} {B : Nat} (h : Oth vs w w') (hB : B ≤ w.heap.size) (hv : ∀ v ∈ vs, ∀ k, v.ownBlock = some k → B ≤ k) : Below B w w' :=
  ⟨h.os, h.tape, h.output, h.size, fun k hk => h.block k (by omega) (fun v hm e => by have := hv v hm k e; omega)⟩

/-- The list of rows, and of each row what F says. -/
structure Bk (E e : TypeId) (w0 w : World) (base : Nat) (vb : Value) (vs : List Value) (ln : Nat → Nat) (F : Nat → List Value → Prop) : Prop where
  row : w.ownsRow base E 1 vb vs.length vs
  rows : ∀ (j : Nat) (v : Value), vs[j]? = some v → ∃ xs, w.ownsRow base e 1 v (ln j) xs ∧ F j xs
  oth : Oth vs w0 w
  lb : ∀ k, vb.ownBlock = some k → k < w0.heap.size
  lv : ∀ (j : Nat) (v : Value), vs[j]? = some v → ∀ k, v.ownBlock = some k → k < w0.heap.size

section
variable {E e : TypeId} {w0 w w' : World} {base : Nat} {vb : Value} {vs : List Value} {ln : Nat → Nat} {F F' : Nat → List Value → Prop}
theorem Bk.weak (h : Bk E e w0 w base vb vs ln F) (hF : ∀ j xs, xs.length = ln j → F j xs → F' j xs) : Bk E e w0 w base vb vs ln F' :=
  ⟨h.row, fun j v hv => by obtain ⟨xs, h1, h2⟩ := h.rows j v hv; exact ⟨xs, h1, hF j xs (by simpa using h1.1) h2⟩, h.oth, h.lb, h.lv⟩
/-- A change of one row's block, or of a new one. -/
theorem Bk.turn (hE : E ≠ e) (h : Bk E e w0 w base vb vs ln F) {r : Option Nat} (g : w.grownBy w' r) (hr : ∀ k, r = some k → (∃ v ∈ vs, v.ownBlock = some k) ∨ w0.heap.size ≤ k)
    (hn : ∀ (j : Nat) (v : Value), vs[j]? = some v → (v.ownBlock = none ∨ v.ownBlock ≠ r) ∨ ∃ xs, w'.ownsRow base e 1 v (ln j) xs ∧ F j xs) : Bk E e w0 w' base vb vs ln F := by
  refine ⟨?_, fun j v hv => ?_, ?_, h.lb, h.lv⟩
  · refine h.row.kept g ?_
    rcases hvb : vb.ownBlock with _ | k
    · exact .inl rfl
    · refine .inr (fun e1 => ?_)
      rcases hr k e1.symm with ⟨v, hm, hk⟩ | hk
      · obtain ⟨j, hj⟩ := List.getElem?_of_mem hm
        obtain ⟨xs, h1, _⟩ := h.rows j v hj
        exact own_apart h.row h1 hE k hvb hk
      · have := h.lb k hvb; omega
  · rcases hn j v hv with hk | hk
    · obtain ⟨xs, h1, h2⟩ := h.rows j v hv
      exact ⟨xs, h1.kept g hk, h2⟩
    · exact hk
  · refine ⟨g.os.trans h.oth.os, g.tape.trans h.oth.tape, g.output.trans h.oth.output, Nat.le_trans h.oth.size g.size, fun k hk hv => ?_⟩
    rw [g.block k (Nat.lt_of_lt_of_le hk h.oth.size) (fun e1 => ?_)]
    · exact h.oth.block k hk hv
    · rcases hr k e1.symm with ⟨v, hm, hk2⟩ | hk2
      · exact hv v hm hk2
      · omega
theorem Bk.fresh (hE : E ≠ e) (h : Bk E e w0 w base vb vs ln F) {r : Option Nat} (g : w.grownBy w' r) (hr : ∀ k, r = some k → w0.heap.size ≤ k) : Bk E e w0 w' base vb vs ln F :=
  h.turn hE g (fun k hk => .inr (hr k hk)) (fun j v hv => .inl (by
    rcases hvb : v.ownBlock with _ | k
    · exact .inl rfl
    · refine .inr (fun e1 => ?_)
      have := hr k e1.symm
      have := h.lv j v hv k hvb
      omega))
/-- A store into the row i. -/
theorem Bk.store (hE : E ≠ e) (hap : Apt vs) (h : Bk E e w0 w base vb vs ln F) {i g n cap k : Nat} {u : Value} (hi : vs[i]? = some (.slice (some ⟨g, 0, none⟩) n cap)) (hF : ∀ xs, F i xs → xs.length = ln i → F' i (xs.set k u)) (hF2 : ∀ j xs, j ≠ i → F j xs → F' j xs) :
    Bk E e w0 (w.setCell ⟨g, k, none⟩ u) base vb vs ln F' := by
  obtain ⟨xs, h1, h2⟩ := h.rows i _ hi
  have hn : n = ln i := by
    rcases h1.2 with ⟨h3, _⟩ | ⟨_, _, _, h3, _⟩
    · cases h3
    · simp at h3; exact h3.2.1
  subst hn
  have hs := h1.stored k u
  have h3 : Bk E e w0 w base vb vs ln (fun j xs => (j ≠ i → F' j xs) ∧ (j = i → F j xs)) := h.weak (fun j xs _ hx => ⟨fun hj => hF2 j xs hj hx, fun _ => hx⟩)
  have h4 : Bk E e w0 (w.setCell ⟨g, k, none⟩ u) base vb vs ln (fun j xs => F' j xs ∨ (j = i ∧ False)) := by
    refine ⟨?_, fun j v hv => ?_, ?_, h.lb, h.lv⟩
    · refine h.row.kept hs.2 ?_
      rcases hvb : vb.ownBlock with _ | k'
      · exact .inl rfl
      · exact .inr (fun e1 => own_apart h.row h1 hE k' hvb e1.symm)
    · by_cases hj : j = i
      · subst hj
        rw [hi] at hv
        injection hv with hv
        subst hv
        exact ⟨_, hs.1, .inl (hF xs h2 (by simpa using h1.1))⟩
      · obtain ⟨ys, k1, k2⟩ := h.rows j v hv
        refine ⟨ys, k1.kept hs.2 ?_, .inl (hF2 j ys hj k2)⟩
        rcases hvb : v.ownBlock with _ | k'
        · exact .inl rfl
        · exact .inr (fun e1 => hap j i v _ hv hi hj k' hvb e1.symm)
    · refine ⟨hs.2.os.trans h.oth.os, hs.2.tape.trans h.oth.tape, hs.2.output.trans h.oth.output, Nat.le_trans h.oth.size hs.2.size, fun k' hk hv => ?_⟩
      rw [hs.2.block k' (Nat.lt_of_lt_of_le hk h.oth.size) (fun e1 => hv _ (List.mem_of_getElem? hi) e1.symm)]
      exact h.oth.block k' hk hv
  exact h4.weak (fun j xs _ hx => by rcases hx with hx | ⟨_, hx⟩; exact hx; exact hx.elim)
end

/-- The marks of a row, and those behind it. -/
def marks (p : Nat → Nat → Value) (i n : Nat) : List Value := (List.range n).map (p i)
theorem marks_len (p : Nat → Nat → Value) (i n : Nat) : (marks p i n).length = n := by simp [marks]
theorem marks_get (p : Nat → Nat → Value) (i n k : Nat) (h : k < n) : (marks p i n)[k]? = some (p i k) := by simp [marks, h]
theorem marks_succ (p : Nat → Nat → Value) (i n : Nat) : marks p i (n + 1) = marks p i n ++ [p i n] := by simp [marks, List.range_succ]
/-- Rows ahead of i are marked, the row i up to k. -/
def upTo (p : Nat → Nat → Value) (ln : Nat → Nat) (i k j : Nat) (xs : List Value) : Prop := (j < i → xs = marks p j (ln j)) ∧ (j = i → xs.take k = marks p i k)
theorem upTo_zero (p : Nat → Nat → Value) (ln : Nat → Nat) (j : Nat) (xs : List Value) : upTo p ln 0 0 j xs := ⟨fun h => absurd h (by omega), fun _ => by simp [marks]⟩
theorem upTo_next {p : Nat → Nat → Value} {ln : Nat → Nat} {i j : Nat} {xs : List Value} (h : upTo p ln i (ln i) j xs) (hl : xs.length = ln j) : upTo p ln (i + 1) 0 j xs := by
  refine ⟨fun hj => ?_, fun _ => by simp [marks]⟩
  by_cases e : j = i
  · subst e
    have := h.2 rfl
    rwa [List.take_of_length_le (by omega)] at this
  · exact h.1 (by omega)
theorem upTo_set {p : Nat → Nat → Value} {ln : Nat → Nat} {i k : Nat} {xs : List Value} (h : upTo p ln i k i xs) (hl : xs.length = ln i) (hk : k < ln i) : upTo p ln i (k + 1) i (xs.set k (p i k)) := by
  refine ⟨fun hj => absurd hj (by omega), fun _ => ?_⟩
  have h2 := h.2 rfl
  rw [marks_succ, ← h2, List.take_succ_eq_append_getElem (by simp; omega)]
  simp [List.take_set_of_le]
theorem upTo_other {p : Nat → Nat → Value} {ln : Nat → Nat} {i k k' j : Nat} {xs : List Value} (h : upTo p ln i k j xs) (hj : j ≠ i) : upTo p ln i k' j xs := ⟨h.1, fun e => absurd e hj⟩

/-- The lengthened rows. -/
structure Lg (E e : TypeId) (w0 w : World) (base : Nat) (vs : List Value) (ln : Nat → Nat) (p t : Nat → Nat → Value) (lv : Value) (i : Nat) (ys : List Value) : Prop where
  row : w.ownsRow w0.heap.size E 1 lv i ys
  rows : ∀ (j : Nat) (y v : Value), ys[j]? = some y → vs[j]? = some v → w.ownsRow base e 1 y (ln j + 16) (marks p j (ln j) ++ marks t j 16) ∧ (y.ownBlock = v.ownBlock ∨ ∀ k, y.ownBlock = some k → w0.heap.size ≤ k)

section
variable {E e : TypeId} {w0 w w' : World} {base : Nat} {vb : Value} {vs ys : List Value} {ln : Nat → Nat} {F F' : Nat → List Value → Prop} {p t : Nat → Nat → Value} {lv : Value} {i : Nat}
theorem Lg.nil (w0 w : World) : Lg E e w0 w base vs ln p t (.slice none 0 0) 0 [] := ⟨World.ownsRow_nil _ _ _ _, fun j y v h => by simp at h⟩
theorem Lg.len (h : Lg E e w0 w base vs ln p t lv i ys) : ys.length = i := by simpa using h.row.1
/-- A change of a block that none of them has. -/
theorem Lg.turn (h : Lg E e w0 w base vs ln p t lv i ys) {r : Option Nat} (g : w.grownBy w' r) (h1 : ∀ k, r = some k → lv.ownBlock ≠ some k) (h2 : ∀ y ∈ ys, ∀ k, r = some k → y.ownBlock ≠ some k) : Lg E e w0 w' base vs ln p t lv i ys := by
  have key : ∀ v : Value, (∀ k, r = some k → v.ownBlock ≠ some k) → v.ownBlock = none ∨ v.ownBlock ≠ r := fun v hv => by
    rcases hvb : v.ownBlock with _ | k
    · exact .inl rfl
    · exact .inr (fun e1 => hv k e1.symm hvb)
  exact ⟨h.row.kept g (key _ h1), fun j y v hy hv => by
    obtain ⟨k1, k2⟩ := h.rows j y v hy hv
    exact ⟨k1.kept g (key _ (h2 y (List.mem_of_getElem? hy))), k2⟩⟩
/-- One more. -/
theorem Lg.snoc (h : Lg E e w0 w base vs ln p t lv i ys) (hE : E ≠ e) {w2 : World} {lv' x : Value} (hrow : w2.ownsRow w0.heap.size E 1 lv' (i + 1) (ys ++ [x])) (g : w.grownBy w2 lv.ownBlock) (hx : w.ownsRow base e 1 x (ln i + 16) (marks p i (ln i) ++ marks t i 16))
    {v : Value} (hv : vs[i]? = some v) (hxb : x.ownBlock = v.ownBlock ∨ ∀ k, x.ownBlock = some k → w0.heap.size ≤ k) : Lg E e w0 w2 base vs ln p t lv' (i + 1) (ys ++ [x]) := by
  have hl := h.len
  have key : ∀ (y : Value) n zs, w.ownsRow base e 1 y n zs → w2.ownsRow base e 1 y n zs := fun y n zs hy => hy.kept g (by
    rcases hvb : y.ownBlock with _ | k
    · exact .inl rfl
    · exact .inr (fun e1 => own_apart h.row hy hE k e1.symm hvb))
  refine ⟨hrow, fun j y u hy hu => ?_⟩
  by_cases hj : j < ys.length
  · rw [List.getElem?_append_left hj] at hy
    obtain ⟨k1, k2⟩ := h.rows j y u hy hu
    exact ⟨key _ _ _ k1, k2⟩
  · rw [List.getElem?_append_right (by omega)] at hy
    have hj2 : j = i := by
      rcases Nat.eq_zero_or_pos (j - ys.length) with h0 | h0
      · omega
      · rw [List.getElem?_eq_none (by simp; omega)] at hy; cases hy
    subst hj2
    rw [hl, Nat.sub_self] at hy
    simp at hy
    subst hy
    rw [hv] at hu
    injection hu with hu
    subst hu
    exact ⟨key _ _ _ hx, hxb⟩
end

theorem grown_alloc {w w1 : World} {o : Obj} {r : Option Nat} (g : (w.alloc o).grownBy w1 r) : w.grownBy w1 r :=
  ⟨g.os, g.tape, g.output, by have := g.size; simp at this; omega, fun k hk hr => (g.block k (by simp; omega) hr).trans (Below.heap_alloc _ _ _ hk)⟩
theorem Stay.grown {w w' : World} {v : Value} {n g c : Nat} (h : Stay w w' v n g c) : w.grownBy w' v.ownBlock := by
  rcases h with ⟨rfl, h⟩ | ⟨_, h⟩
  · exact h
  · exact ⟨h.os, h.tape, h.output, h.size, fun k hk _ => h.block k hk (by simp)⟩

/-- One more element behind a row: in its own room, or in a new block. -/
theorem stay_step {E e : TypeId} {w0 wr w1 : World} {o : Obj} {base : Nat} {vb v x lv u : Value} {vs ys : List Value} {ln : Nat → Nat} {p t : Nat → Nat → Value} {i m g cap Wi : Nat} (hE : E ≠ e) (hap : Apt vs)
    (hbk : Bk E e w0 wr base vb vs ln (fun j xs => xs = marks p j (ln j))) (hlg : Lg E e w0 wr base vs ln p t lv i ys) (hv : vs[i]? = some v)
    (hx : wr.ownsRow base e 1 x (ln i + m) (marks p i (ln i) ++ marks t i m)) (hxb : x.ownBlock = v.ownBlock ∨ ∀ k, x.ownBlock = some k → Wi ≤ k) (hy : ∀ y ∈ ys, ∀ k, y.ownBlock = some k → k < Wi) (hW : Wi ≤ wr.heap.size) (hW0 : w0.heap.size ≤ Wi)
    (hown : w1.ownsRow base e 1 (.slice (some ⟨g, 0, none⟩) (ln i + m + 1) cap) (ln i + m + 1) ((marks p i (ln i) ++ marks t i m) ++ [u])) (hst : Stay (wr.alloc o) w1 x (ln i + m) g cap) :
    Bk E e w0 w1 base vb vs ln (fun j xs => xs = marks p j (ln j)) ∧ Lg E e w0 w1 base vs ln p t lv i ys ∧ ((Value.slice (some ⟨g, 0, none⟩) (ln i + m + 1) cap).ownBlock = v.ownBlock ∨ ∀ k, (Value.slice (some ⟨g, 0, none⟩) (ln i + m + 1) cap).ownBlock = some k → Wi ≤ k) ∧ Wi ≤ w1.heap.size := by
  have hgr := grown_alloc hst.grown
  refine ⟨?_, ?_, ?_, Nat.le_trans hW hgr.size⟩
  · rcases hst with ⟨rfl, hs⟩ | ⟨hg, hs⟩
    · have hs' := grown_alloc hs
      rcases hxb with hxb | hxb
      · refine hbk.turn hE hs' (fun k hk => .inl ⟨v, List.mem_of_getElem? hv, by rw [← hxb, ← hk]; rfl⟩) (fun j v' hv' => ?_)
        by_cases hj : j = i
        · subst hj
          rw [hv] at hv'
          injection hv' with hv'
          subst hv'
          obtain ⟨xs, k1, rfl⟩ := hbk.rows j v hv
          right
          rcases k1.2 with ⟨rfl, _⟩ | ⟨g1, c1, cur1, rfl, _⟩
          · cases hxb
          · have hgg : g = g1 := by injection hxb
            subst hgg
            have hc := own_cap hx k1
            subst hc
            refine ⟨_, own_prefix (m := m + 1) (by rw [← Nat.add_assoc]; exact hown), ?_⟩
            rw [List.append_assoc, List.take_append_of_le_length (by rw [marks_len]; exact Nat.le_refl _), List.take_of_length_le (by rw [marks_len]; exact Nat.le_refl _)]
        · left
          rcases hvb : v'.ownBlock with _ | k
          · exact .inl rfl
          · exact .inr (fun e1 => hap j i v' v hv' hv hj k hvb (by rw [← hxb, e1]; rfl))
      · exact hbk.fresh hE hs' (fun k hk => Nat.le_trans hW0 (hxb k hk))
    · exact hbk.fresh hE (grown_alloc hs) (fun k hk => by cases hk)
  · rcases hst with ⟨rfl, hs⟩ | ⟨hg, hs⟩
    · refine hlg.turn (grown_alloc hs) (fun k hk e1 => own_apart hlg.row hx hE k e1 hk) (fun y hym k hk e1 => ?_)
      rcases hxb with hxb | hxb
      · obtain ⟨j, hj⟩ := List.getElem?_of_mem hym
        have hjl : j < i := by
          have := (List.getElem?_eq_some_iff.1 hj).1
          have := hlg.len
          omega
        have hil : i < vs.length := (List.getElem?_eq_some_iff.1 hv).1
        have hvj : vs[j]? = some vs[j] := List.getElem?_eq_getElem (by omega)
        obtain ⟨_, k2⟩ := hlg.rows j y _ hj hvj
        rcases k2 with k2 | k2
        · exact hap j i _ v hvj hv (by omega) k (by rw [← k2]; exact e1) (by rw [← hxb]; exact hk)
        · have h1 := k2 k e1
          have h2 := hbk.lv i v hv k (by rw [← hxb]; exact hk)
          omega
      · have h1 := hy y hym k e1
        have h2 := hxb k hk
        omega
    · exact hlg.turn (grown_alloc hs) (fun k hk => by cases hk) (fun y _ k hk => by cases hk)
  · rcases hst with ⟨rfl, hs⟩ | ⟨hg, hs⟩
    · exact hxb
    · right
      intro k hk
      injection hk with hk
      have h1 : wr.heap.size ≤ g := by rw [hg]; simp
      have h2 : k = g := hk.symm
      omega
end Go.Proofs.YtepjpdhmjchakaaGreatDoor

/- One row of elements of several cells, lengthened by its owner: what holds of it. -/
namespace Go.Proofs.YtepjpdhmjchakaaGreatDoor
open Go.RowKit
set_option linter.unusedVariables false

theorem run_append_stay2 {P : Program} (w : World) (t ty : TypeId) (base : Nat) (e : TypeId) (i : TypeInfo) (z : Value) (size bytes : Nat) (ht : P.underlying t = some (.slice e)) (hi : P.info? e = some i) (hz : i.zero = some z)
    (hsize : i.size = size) (hby : i.bytes = bytes) (hzs : z.cells.size = size) (h0 : 0 < size)
    (v : Value) (n : Nat) (xs : List Value) (hown : w.ownsRow base e size v n xs)
    (ad : Addr) (c : Nat) (us : List Value) (hlen : us.length = 1 * size) (h1' : ∀ u ∈ us, u.oneCell' = true) (had : ∀ j u', us[j]? = some u' → w.cell? (ad.add j) = some u')
    (h63 : n + 1 ≤ maxLen) (hbytes : (n + 1) * bytes ≤ 140737488355328) (hbase : base ≤ w.heap.size) :
    ∃ g cap w', (Builtin.append_ #[t, t] ty #[v, .slice (some ad) 1 c]).run P w = .ok (.slice (some ⟨g, 0, none⟩) (n + 1) cap) w' ∧
      w'.ownsRow base e size (.slice (some ⟨g, 0, none⟩) (n + 1) cap) (n + 1) (xs ++ us) ∧ Stay w w' v n g cap ∧ g < w'.heap.size := by
  obtain ⟨g, cap', w', hr, h2, h3, h4, h5⟩ := run_append_lies (P := P) w t ty base e i z size bytes ht hi hz hsize hby hzs h0 v n xs hown ad 1 c us hlen had h1' (by decide) h63 hbytes hbase _ rfl
  rcases hown.2 with ⟨rfl, rfl⟩ | ⟨g0, cap, cur, rfl, hbg, hg, hnc, hcm, hcs, htake⟩
  · refine ⟨g, cap', w', hr, h2, .inr ⟨?_, h3⟩, h5⟩
    rcases h4 with h4 | h4
    · cases h4
    · exact h4
  · by_cases hroom : n + 1 ≤ cap
    · obtain ⟨w2, hr2, h22, h23⟩ := run_append_own_spare (P := P) w base t ty e i size ht hi hsize g0 n cap xs hown ad 1 c us hlen had h1' hroom
      rw [hr] at hr2
      simp only [Result.ok.injEq, Value.slice.injEq, Option.some.injEq, Addr.mk.injEq, and_true, true_and] at hr2
      obtain ⟨⟨rfl, rfl⟩, rfl⟩ := hr2
      exact ⟨_, _, _, hr, h2, .inl ⟨rfl, h23⟩, h5⟩
    · have holds : ∀ j u, xs[j]? = some u → w.cell? ((⟨g0, 0, none⟩ : Addr).add j) = some u := hown.cells (g := g0) rfl
      subst hby
      have hsm : n + 1 ≤ 9223372036854775807 := by unfold maxLen at h63; omega
      have hr2 := run_append_grow (P := P) w t ty e i z ht hi hz ⟨g0, 0, none⟩ n cap xs (by rw [hsize]; exact hown.1) holds ad 1 c us (by rw [hsize]; exact hlen) had (by omega) (by omega) (growslice_fits (by omega) hbytes)
      rw [hr] at hr2
      simp only [Result.ok.injEq, Value.slice.injEq, Option.some.injEq, Addr.mk.injEq, and_true, true_and] at hr2
      obtain ⟨⟨hgg, -⟩, hw⟩ := hr2
      refine ⟨g, cap', w', hr, h2, .inr ⟨hgg, ?_⟩, h5⟩
      rw [hw]
      exact ⟨rfl, rfl, rfl, by simp, fun k hk _ => Below.heap_alloc w.drew _ k hk⟩

theorem wpList_append_stay2 {P : Program} (w : World) {ops : Array Oper} {rest : List Oper} {o : Oper} {a : Act} {Q : Exit → Act → World → Prop} (hgd : o.guard = none) (s x : Operand) (t : TypeId)
    (ho : o.op = .call { callee := .builtin .append, args := #[s, x], argTypes := #[t, t] })
    (base : Nat) (e : TypeId) (i : TypeInfo) (z : Value) (size bytes : Nat) (ht : P.underlying t = some (.slice e)) (hi : P.info? e = some i) (hz : i.zero = some z)
    (hsize : i.size = size) (hby : i.bytes = bytes) (hzs : z.cells.size = size) (h0 : 0 < size)
    (v : Value) (n : Nat) (xs : List Value) (hs : a.eval s = v) (hown : w.ownsRow base e size v n xs)
    (ad : Addr) (c : Nat) (us : List Value) (hx : a.eval x = .slice (some ad) 1 c) (hlen : us.length = 1 * size) (had : ∀ j u', us[j]? = some u' → w.cell? (ad.add j) = some u') (h1 : ∀ u ∈ us, u.oneCell' = true)
    (h63 : n + 1 ≤ maxLen) (hbytes : (n + 1) * bytes ≤ 140737488355328) (hbase : base ≤ w.heap.size)
    (h : ∀ g cap w', w'.ownsRow base e size (.slice (some ⟨g, 0, none⟩) (n + 1) cap) (n + 1) (xs ++ us) → Stay w w' v n g cap → g < w'.heap.size → wpList P ops Q rest (a.put o.dst (.slice (some ⟨g, 0, none⟩) (n + 1) cap)) w') : wpList P ops Q (o :: rest) a w := by
  refine wpList_plain hgd fun K hK => ?_
  obtain ⟨g, cap, w', hr, h2, h3, h4⟩ := run_append_stay2 (P := P) w t o.type base e i z size bytes ht hi hz hsize hby hzs h0 v n xs hown ad c us hlen h1 had h63 hbytes hbase
  unfold Oper.wp execOp
  simp only [ho, resolve, invoke, builtin, Sem.run_bind, Sem.run_pure, Result.andThen_ok, List.map_toArray, List.map_cons, List.map_nil, hs, hx, hr]
  exact hK _ _ (h g cap w' h2 h3 h4)

/-- The first elements of a row, as a row. -/
theorem own_prefix2 {w : World} {base : Nat} {e : TypeId} {s g cap : Nat} {n m : Nat} {ys : List Value} (h : w.ownsRow base e s (.slice (some ⟨g, 0, none⟩) (n + m) cap) (n + m) ys) : w.ownsRow base e s (.slice (some ⟨g, 0, none⟩) n cap) n (ys.take (n * s)) := by
  obtain ⟨hl, h | ⟨g', cap', cur, hv, hb, hh, h1, h2, h3, h4⟩⟩ := h
  · simp at h
  · simp only [Value.slice.injEq, Option.some.injEq, Addr.mk.injEq, and_true, true_and] at hv
    obtain ⟨rfl, rfl⟩ := hv
    have hms : n * s ≤ (n + m) * s := Nat.mul_le_mul_right s (by omega)
    refine ⟨by rw [List.length_take, hl, Nat.min_eq_left hms], .inr ⟨g, cap, cur, rfl, hb, hh, by omega, h2, h3, ?_⟩⟩
    rw [← h4, List.take_take, Nat.min_eq_left hms]
theorem own_cap2 {w : World} {base base' : Nat} {e : TypeId} {s g cap cap' n n' : Nat} {xs ys : List Value} (hs : 0 < s) (h : w.ownsRow base e s (.slice (some ⟨g, 0, none⟩) n cap) n xs) (k : w.ownsRow base' e s (.slice (some ⟨g, 0, none⟩) n' cap') n' ys) : cap = cap' := by
  obtain ⟨_, h | ⟨g1, c1, cur1, hv, _, hh, _, _, h3, _⟩⟩ := h
  · simp at h
  · obtain ⟨_, k | ⟨g2, c2, cur2, kv, _, kk, _, _, k3, _⟩⟩ := k
    · simp at k
    · simp only [Value.slice.injEq, Option.some.injEq, Addr.mk.injEq, and_true, true_and] at hv kv
      obtain ⟨rfl, rfl⟩ := hv
      obtain ⟨rfl, rfl⟩ := kv
      rw [hh] at kk
      injection kk with kk
      injection kk with kk
      subst kk
      exact Nat.eq_of_mul_eq_mul_right hs (h3.symm.trans k3)

/-- A row and the row lengthened. -/
structure Two (w0 w : World) (base : Nat) (e : TypeId) (s n m : Nat) (v x : Value) (A B : List Value) : Prop where
  rv : w.ownsRow base e s v n A
  rx : w.ownsRow base e s x (n + m) (A ++ B)
  ap : x.ownBlock = v.ownBlock ∨ ∀ k, x.ownBlock = some k → w0.heap.size ≤ k
  lv : ∀ k, v.ownBlock = some k → k < w0.heap.size
  oth : Oth [v] w0 w
theorem Two.step {w0 w w1 : World} {base : Nat} {e : TypeId} {s n m : Nat} {v x : Value} {A B us : List Value} (hs : 0 < s) (h : Two w0 w base e s n m v x A B) {o : Obj} {g cap : Nat}
    (hown : w1.ownsRow base e s (.slice (some ⟨g, 0, none⟩) (n + m + 1) cap) (n + m + 1) ((A ++ B) ++ us)) (hst : Stay (w.alloc o) w1 x (n + m) g cap) :
    Two w0 w1 base e s n (m + 1) v (.slice (some ⟨g, 0, none⟩) (n + m + 1) cap) A (B ++ us) := by
  have hsz := h.oth.size
  have hrx : w1.ownsRow base e s (.slice (some ⟨g, 0, none⟩) (n + m + 1) cap) (n + (m + 1)) (A ++ (B ++ us)) := by rw [← List.append_assoc]; exact hown
  have hAl : A.length = n * s := h.rv.1
  have othof : ∀ {r : Option Nat}, w.grownBy w1 r → (∀ k, r = some k → k < w0.heap.size → v.ownBlock = some k) → Oth [v] w0 w1 := fun {r} g hr =>
    ⟨g.os.trans h.oth.os, g.tape.trans h.oth.tape, g.output.trans h.oth.output, Nat.le_trans hsz g.size, fun k hk hv => (g.block k (by omega) (fun e1 => hv v (by simp) (hr k e1.symm hk))).trans (h.oth.block k hk hv)⟩
  rcases hst with ⟨rfl, hs1⟩ | ⟨hg, hs1⟩
  · have hg := grown_alloc hs1
    refine ⟨?_, hrx, ?_, h.lv, othof hg ?_⟩
    · rcases h.ap with hap | hap
      · rcases h.rv.2 with ⟨rfl, _⟩ | ⟨g1, c1, cur1, hv1, _⟩
        · cases hap
        · have hrv := h.rv
          subst hv1
          have hgg : g = g1 := by injection hap
          subst hgg
          have hc := own_cap2 hs h.rx hrv
          subst hc
          have := own_prefix2 (m := m + 1) hrx
          rwa [List.take_append_of_le_length (by omega), List.take_of_length_le (by omega)] at this
      · refine h.rv.kept hg ?_
        rcases hvb : v.ownBlock with _ | k
        · exact .inl rfl
        · refine .inr (fun e1 => ?_)
          injection e1 with e1
          have h2 := hap g rfl
          have h3 := h.lv k hvb
          omega
    · rcases h.ap with hap | hap
      · exact .inl hap
      · exact .inr hap
    · intro k hk hk0
      injection hk with hk
      subst hk
      rcases h.ap with hap | hap
      · exact hap.symm
      · have := hap g rfl
        omega
  · have hg2 := grown_alloc hs1
    refine ⟨h.rv.kept hg2 ?_, hrx, .inr (fun k hk => ?_), h.lv, othof hg2 (fun k hk => by cases hk)⟩
    · rcases hvb : v.ownBlock with _ | k
      · exact .inl rfl
      · exact .inr (fun e1 => by cases e1)
    · injection hk with hk
      have h1 : w.heap.size ≤ g := by rw [hg]; simp
      have h2 : k = g := hk.symm
      omega
/-- A change of no block of theirs. -/
theorem Two.fresh {w0 w w1 : World} {base : Nat} {e : TypeId} {s n m : Nat} {v x : Value} {A B : List Value} (h : Two w0 w base e s n m v x A B) {r : Option Nat} (g : w.grownBy w1 r) (h1 : ∀ k, r = some k → w0.heap.size ≤ k ∧ x.ownBlock ≠ some k) : Two w0 w1 base e s n m v x A B := by
  have hsz := h.oth.size
  refine ⟨h.rv.kept g ?_, h.rx.kept g ?_, h.ap, h.lv, ⟨g.os.trans h.oth.os, g.tape.trans h.oth.tape, g.output.trans h.oth.output, Nat.le_trans hsz g.size, fun k hk hv => (g.block k (by omega) (fun e1 => by have := (h1 k e1.symm).1; omega)).trans (h.oth.block k hk hv)⟩⟩
  · rcases hvb : v.ownBlock with _ | k
    · exact .inl rfl
    · exact .inr (fun e1 => by have := (h1 k e1.symm).1; have := h.lv k hvb; omega)
  · rcases hvb : x.ownBlock with _ | k
    · exact .inl rfl
    · exact .inr (fun e1 => (h1 k e1.symm).2 hvb)

theorem Oth.set1 {w0 w w1 : World} {g n c : Nat} (o : Oth [.slice (some ⟨g, 0, none⟩) n c] w0 w) (h : w.grownBy w1 (some g)) : Oth [.slice (some ⟨g, 0, none⟩) n c] w0 w1 :=
  ⟨h.os.trans o.os, h.tape.trans o.tape, h.output.trans o.output, Nat.le_trans o.size h.size, fun k hk hv => (h.block k (Nat.lt_of_lt_of_le hk o.size) (fun e => hv (.slice (some ⟨g, 0, none⟩) n c) (by simp) e.symm)).trans (o.block k hk hv)⟩
/-- The cells of n marks. -/
def mks (f : Nat → List Value) (n : Nat) : List Value := (List.range n).flatMap f
theorem mks_succ (f : Nat → List Value) (n : Nat) : mks f (n + 1) = mks f n ++ f n := by simp [mks, List.range_succ]
theorem mks_len {f : Nat → List Value} {s : Nat} (hf : ∀ k, (f k).length = s) : ∀ n, (mks f n).length = n * s
  | 0 => by simp [mks]
  | n + 1 => by rw [mks_succ, List.length_append, mks_len hf n, hf, Nat.succ_mul]
theorem mks_get {f : Nat → List Value} {s : Nat} (hf : ∀ k, (f k).length = s) : ∀ {n k i : Nat}, k < n → i < s → (mks f n)[k * s + i]? = (f k)[i]?
  | n + 1, k, i, hk, hi => by
    have hl := mks_len hf n
    rw [mks_succ]
    by_cases h : k < n
    · have : (k + 1) * s ≤ n * s := Nat.mul_le_mul_right s h
      rw [Nat.succ_mul] at this
      rw [List.getElem?_append_left (by omega)]
      exact mks_get hf h hi
    · obtain rfl : k = n := by omega
      rw [List.getElem?_append_right (by omega), hl, Nat.add_sub_cancel_left]
  | 0, k, i, hk, _ => by omega
end Go.Proofs.YtepjpdhmjchakaaGreatDoor
