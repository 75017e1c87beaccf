/- Lists of rows of bytes that are the call's own: made, lengthened, kept. -/
import Derived.Test.YtckmeomhcikmoaaApp2
import Derived.Test.YtckmeomhcikmoaaRows2
namespace Go.Proofs.Ytckmeomhcikmoaa
open Go.RowKit

theorem own_apart {w : World} {base base' : Nat} {e e' : TypeId} {s s' : Nat} {v v' : Value} {n n' : Nat} {xs ys : List Value} (h : w.ownsRow base e s v n xs) (k : w.ownsRow base' e' s' v' n' ys) (hne : e ≠ e') : ∀ b, v.ownBlock = some b → v'.ownBlock ≠ some b := by
  intro b hb hb'
  obtain ⟨_, ⟨rfl, _⟩ | ⟨g1, c1, cur1, rfl, _, hh, _⟩⟩ := h
  · cases hb
  · obtain ⟨_, ⟨rfl, _⟩ | ⟨g2, c2, cur2, rfl, _, kk, _⟩⟩ := k
    · cases hb'
    · injection hb with hb
      injection hb' with hb'
      have e1 : g1 = b := hb
      have e2 : g2 = b := hb'
      rw [e1] at hh
      rw [e2, hh] at kk
      injection kk with kk
      injection kk with _ kk
      exact hne kk
theorem own_of_same {w w' : World} {base : Nat} {e : TypeId} {size : Nat} {v : Value} {n : Nat} {xs : List Value} (h : w.ownsRow base e size v n xs) (hs : ∀ k, v.ownBlock = some k → w'.heap[k]? = w.heap[k]?) : w'.ownsRow base e size v n xs := by
  obtain ⟨h1, ⟨rfl, h2⟩ | ⟨g, cap, cur, rfl, h3⟩⟩ := h
  · exact ⟨h1, .inl ⟨rfl, h2⟩⟩
  · exact ⟨h1, .inr ⟨g, cap, cur, rfl, h3.1, by rw [hs g rfl]; exact h3.2.1, h3.2.2⟩⟩
theorem own_mono {w : World} {base base' : Nat} {e : TypeId} {size : Nat} {v : Value} {n : Nat} {xs : List Value} (h : w.ownsRow base e size v n xs) (hb : base' ≤ base) : w.ownsRow base' e size v n xs := by
  obtain ⟨h1, ⟨rfl, h2⟩ | ⟨g, cap, cur, rfl, h3, h4⟩⟩ := h
  · exact ⟨h1, .inl ⟨rfl, h2⟩⟩
  · exact ⟨h1, .inr ⟨g, cap, cur, rfl, Nat.le_trans hb h3, h4⟩⟩
theorem own_raise {w : World} {base base' : Nat} {e : TypeId} {size : Nat} {v : Value} {n : Nat} {xs : List Value} (h : w.ownsRow base e size v n xs) (hb : ∀ k, v.ownBlock = some k → base' ≤ k) : w.ownsRow base' e size v n xs := by
  obtain ⟨h1, ⟨rfl, h2⟩ | ⟨g, cap, cur, rfl, h3, h4⟩⟩ := h
  · exact ⟨h1, .inl ⟨rfl, h2⟩⟩
  · exact ⟨h1, .inr ⟨g, cap, cur, rfl, hb g rfl, h4⟩⟩
theorem own_below {w w' : World} {base B : Nat} {e : TypeId} {size : Nat} {v : Value} {n : Nat} {xs : List Value} (h : w.ownsRow base e size v n xs) (hb : Below B w w') (hB : w.heap.size ≤ B) : w'.ownsRow base e size v n xs :=
  own_of_same h (fun k hk => hb.block k (Nat.lt_of_lt_of_le (h.lt k hk).2 hB))

/-- Rows that lie apart. -/
def Apt (vs : List Value) : Prop := ∀ (i j : Nat) (u v : Value), vs[i]? = some u → vs[j]? = some v → i ≠ j → ∀ k, u.ownBlock = some k → v.ownBlock ≠ some k

/-- A list of rows of bytes, all of the call's own. -/
structure ORow (w : World) (base : Nat) (v : Value) (vs : List Value) (rows : List (List UInt8)) : Prop where
  row : w.ownsRow base 23 1 v vs.length vs
  len : vs.length = rows.length
  each : ∀ (i : Nat) (u : Value) (r : List UInt8), vs[i]? = some u → rows[i]? = some r → w.ownsRow base 5 1 u r.length (r.map f8)
  apt : Apt vs

section
variable {w w' : World} {base base' : Nat} {v : Value} {vs : List Value} {rows : List (List UInt8)}
theorem ORow.nil (w : World) (base : Nat) : ORow w base (.slice none 0 0) [] [] :=
  ⟨World.ownsRow_nil _ _ _ _, rfl, fun i u r h => by simp at h, fun i j u v h => by simp at h⟩
theorem ORow.at (h : ORow w base v vs rows) {i : Nat} {u : Value} (hu : vs[i]? = some u) : ∃ r, rows[i]? = some r ∧ w.ownsRow base 5 1 u r.length (r.map f8) := by
  have hi : i < rows.length := by rw [← h.len]; exact (List.getElem?_eq_some_iff.1 hu).1
  exact ⟨rows[i], List.getElem?_eq_getElem hi, h.each i u _ hu (List.getElem?_eq_getElem hi)⟩
theorem ORow.same (h : ORow w base v vs rows) (h0 : ∀ k, v.ownBlock = some k → w'.heap[k]? = w.heap[k]?) (h1 : ∀ u ∈ vs, ∀ k, u.ownBlock = some k → w'.heap[k]? = w.heap[k]?) : ORow w' base v vs rows :=
  ⟨own_of_same h.row h0, h.len, fun i u r hu hr => own_of_same (h.each i u r hu hr) (h1 u (List.mem_of_getElem? hu)), h.apt⟩
theorem ORow.lt (h : ORow w base v vs rows) : (∀ k, v.ownBlock = some k → base ≤ k ∧ k < w.heap.size) ∧ ∀ u ∈ vs, ∀ k, u.ownBlock = some k → base ≤ k ∧ k < w.heap.size := by
  refine ⟨h.row.lt, fun u hu k hk => ?_⟩
  obtain ⟨i, hi⟩ := List.getElem?_of_mem hu
  obtain ⟨r, _, h2⟩ := h.at hi
  exact h2.lt k hk
theorem ORow.below {B : Nat} (h : ORow w base v vs rows) (hb : Below B w w') (hB : w.heap.size ≤ B) : ORow w' base v vs rows :=
  h.same (fun k hk => hb.block k (Nat.lt_of_lt_of_le (h.lt.1 k hk).2 hB)) (fun u hu k hk => hb.block k (Nat.lt_of_lt_of_le (h.lt.2 u hu k hk).2 hB))
theorem ORow.mono (h : ORow w base v vs rows) (hb : base' ≤ base) : ORow w base' v vs rows :=
  ⟨own_mono h.row hb, h.len, fun i u r hu hr => own_mono (h.each i u r hu hr) hb, h.apt⟩
/-- One more row. -/
theorem ORow.snoc (h : ORow w base v vs rows) {u v' : Value} {r : List UInt8} (hu : w.ownsRow base 5 1 u r.length (r.map f8)) (hap : ∀ x ∈ vs, ∀ k, x.ownBlock = some k → u.ownBlock ≠ some k)
    (hrow : w'.ownsRow base 23 1 v' (vs.length + 1) (vs ++ [u])) (g : w.grownBy w' v.ownBlock) : ORow w' base v' (vs ++ [u]) (rows ++ [r]) := by
  have key : ∀ (x : Value) n zs, w.ownsRow base 5 1 x n zs → w'.ownsRow base 5 1 x n zs := fun x n zs hx => hx.kept g (by
    rcases hvb : x.ownBlock with _ | k
    · exact .inl rfl
    · exact .inr (fun e1 => own_apart h.row hx (by decide) k e1.symm hvb))
  refine ⟨by simpa using hrow, by simp [h.len], fun i x q hx hq => ?_, fun i j x y hx hy hij k hk => ?_⟩
  · rcases Nat.lt_trichotomy i vs.length with hi | hi | hi
    · rw [List.getElem?_append_left hi] at hx
      rw [List.getElem?_append_left (by rw [← h.len]; exact hi)] at hq
      exact key _ _ _ (h.each i x q hx hq)
    · subst hi
      rw [List.getElem?_append_right (Nat.le_refl _), Nat.sub_self] at hx
      rw [h.len, List.getElem?_append_right (Nat.le_refl _), Nat.sub_self] at hq
      simp at hx hq
      subst hx hq
      exact key _ _ _ hu
    · rw [List.getElem?_eq_none (by simp; omega)] at hx; cases hx
  · have at' : ∀ i x, (vs ++ [u])[i]? = some x → (i < vs.length ∧ vs[i]? = some x) ∨ (i = vs.length ∧ x = u) := by
      intro i x hx
      rcases Nat.lt_trichotomy i vs.length with hi | hi | hi
      · rw [List.getElem?_append_left hi] at hx; exact .inl ⟨hi, hx⟩
      · subst hi
        rw [List.getElem?_append_right (Nat.le_refl _), Nat.sub_self] at hx
        simp at hx
        exact .inr ⟨rfl, hx.symm⟩
      · rw [List.getElem?_eq_none (by simp; omega)] at hx; cases hx
    rcases at' i x hx with ⟨h1, h2⟩ | ⟨h1, h2⟩ <;> rcases at' j y hy with ⟨h3, h4⟩ | ⟨h3, h4⟩
    · exact h.apt i j x y h2 h4 hij k hk
    · subst h4; exact hap x (List.mem_of_getElem? h2) k hk
    · subst h2; intro e1; exact hap y (List.mem_of_getElem? h4) k e1 hk
    · omega
theorem map_fv (vs : List Value) : vs.map fv = vs := by
  induction vs with
  | nil => rfl
  | cons a l ih => rw [List.map_cons, ih]; rfl
/-- What it reads as. -/
theorem ORow.rws (h : ORow w base v vs rows) (hn : rows.length ≤ 140737488355328) (hr : ∀ r ∈ rows, r.length ≤ 140737488355328) : Rws base w.heap.size w v rows := by
  refine ⟨vs, h.len, Sl.owns (f := fv) (by rw [map_fv]; exact h.row) (by rw [h.len]; exact hn), fun r h1 h2 => ?_⟩
  exact Sl.owns (h.each r _ _ (List.getElem?_eq_getElem h2) (List.getElem?_eq_getElem h1)) (hr _ (List.getElem_mem h1))
end
end Go.Proofs.Ytckmeomhcikmoaa
