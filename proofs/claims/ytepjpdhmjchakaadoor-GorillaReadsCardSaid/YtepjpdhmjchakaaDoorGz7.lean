/- A list of chunks of the call's own. -/
import Derived.Test.YtepjpdhmjchakaaDoorGz6
namespace Go.Proofs.YtepjpdhmjchakaaDoor
open Go.RowKit
set_option linter.unusedVariables false

/-- A chunk: first and last time, number of samples, bytes. -/
structure Ck where
  f : Int
  t : Int
  n : Nat
  d : List UInt8
/-- Its four cells; u is its row. -/
def ckc (c : Ck) (u : Value) : List Value := [.int .i64 c.f, .int .i64 c.t, .int .i64 (c.n : Int), u]
def cks (cs : List Ck) (us : List Value) : List Value := (List.zipWith ckc cs us).flatten
theorem cks_snoc {cs : List Ck} {us : List Value} (h : us.length = cs.length) (c : Ck) (u : Value) : cks (cs ++ [c]) (us ++ [u]) = cks cs us ++ ckc c u := by
  unfold cks
  rw [List.zipWith_append h.symm]
  simp
theorem cks_len : ∀ {cs : List Ck} {us : List Value} (h : us.length = cs.length), (cks cs us).length = cs.length * 4
  | [], [], _ => rfl
  | c :: cs, u :: us, h => by
    have := cks_len (cs := cs) (us := us) (by simpa using h)
    simp only [cks, List.zipWith_cons_cons, List.flatten_cons, List.length_append, List.length_cons] at *
    simp only [ckc, List.length_cons, List.length_nil]
    omega
  | [], _ :: _, h => by simp at h
  | _ :: _, [], h => by simp at h
/-- Rows that lie apart. -/
def Apt (vs : List Value) : Prop := ∀ (i j : Nat) (u v : Value), vs[i]? = some u → vs[j]? = some v → i ≠ j → ∀ k, u.ownBlock = some k → v.ownBlock ≠ some k

structure CRow (w : World) (base : Nat) (v : Value) (us : List Value) (cs : List Ck) : Prop where
  row : w.ownsRow base 73 4 v cs.length (cks cs us)
  len : us.length = cs.length
  each : ∀ (i : Nat) (u : Value) (c : Ck), us[i]? = some u → cs[i]? = some c → w.ownsRow base 5 1 u c.d.length (c.d.map f8)
  apt : Apt us

section
variable {w w' : World} {base base' : Nat} {v : Value} {us : List Value} {cs : List Ck}
theorem CRow.nil (w : World) (base : Nat) : CRow w base (.slice none 0 0) [] [] :=
  ⟨World.ownsRow_nil _ _ _ _, rfl, fun i u r h => by simp at h, fun i j u v h => by simp at h⟩
theorem CRow.at (h : CRow w base v us cs) {i : Nat} {u : Value} (hu : us[i]? = some u) : ∃ c, cs[i]? = some c ∧ w.ownsRow base 5 1 u c.d.length (c.d.map f8) := by
  have hi : i < cs.length := by rw [← h.len]; exact (List.getElem?_eq_some_iff.1 hu).1
  exact ⟨cs[i], List.getElem?_eq_getElem hi, h.each i u _ hu (List.getElem?_eq_getElem hi)⟩
theorem CRow.same (h : CRow w base v us cs) (h0 : ∀ k, v.ownBlock = some k → w'.heap[k]? = w.heap[k]?) (h1 : ∀ u ∈ us, ∀ k, u.ownBlock = some k → w'.heap[k]? = w.heap[k]?) : CRow w' base v us cs :=
  ⟨own_of_same h.row h0, h.len, fun i u r hu hr => own_of_same (h.each i u r hu hr) (h1 u (List.mem_of_getElem? hu)), h.apt⟩
theorem CRow.lt (h : CRow w base v us cs) : (∀ k, v.ownBlock = some k → base ≤ k ∧ k < w.heap.size) ∧ ∀ u ∈ us, ∀ k, u.ownBlock = some k → base ≤ k ∧ k < w.heap.size := by
  refine ⟨h.row.lt, fun u hu k hk => ?_⟩
  obtain ⟨i, hi⟩ := List.getElem?_of_mem hu
  obtain ⟨r, _, h2⟩ := h.at hi
  exact h2.lt k hk
theorem CRow.below {B : Nat} (h : CRow w base v us cs) (hb : Below B w w') (hB : w.heap.size ≤ B) : CRow w' base v us cs :=
  h.same (fun k hk => hb.block k (Nat.lt_of_lt_of_le (h.lt.1 k hk).2 hB)) (fun u hu k hk => hb.block k (Nat.lt_of_lt_of_le (h.lt.2 u hu k hk).2 hB))
theorem CRow.mono (h : CRow w base v us cs) (hb : base' ≤ base) : CRow w base' v us cs :=
  ⟨own_low h.row hb, h.len, fun i u r hu hr => own_low (h.each i u r hu hr) hb, h.apt⟩
theorem own_apart' {w : World} {base base' : Nat} {e e' : TypeId} {size size' : Nat} {v v' : Value} {n n' : Nat} {xs xs' : List Value} (h : w.ownsRow base e size v n xs) (h' : w.ownsRow base' e' size' v' n' xs') (hne : e ≠ e') : ∀ k, v.ownBlock = some k → v'.ownBlock ≠ some k := by
  intro k h1 h2
  obtain ⟨cs, e1⟩ := own_block h k h1
  obtain ⟨cs', e2⟩ := own_block h' k h2
  rw [e1] at e2
  injection e2 with e3
  injection e3 with _ e4
  exact hne e4
/-- One more chunk. -/
theorem CRow.snoc (h : CRow w base v us cs) {u v' : Value} {c : Ck} (hu : w.ownsRow base 5 1 u c.d.length (c.d.map f8)) (hap : ∀ x ∈ us, ∀ k, x.ownBlock = some k → u.ownBlock ≠ some k)
    (hrow : w'.ownsRow base 73 4 v' (cs.length + 1) (cks cs us ++ ckc c u)) (g : w.grownBy w' v.ownBlock) : CRow w' base v' (us ++ [u]) (cs ++ [c]) := by
  have key : ∀ (x : Value) n zs, w.ownsRow base 5 1 x n zs → w'.ownsRow base 5 1 x n zs := fun x n zs hx => hx.kept g (by
    rcases hvb : x.ownBlock with _ | k
    · exact .inl rfl
    · exact .inr (fun e1 => own_apart' h.row hx (by decide) k e1.symm hvb))
  refine ⟨by rw [cks_snoc h.len]; simpa using hrow, by simp [h.len], fun i x q hx hq => ?_, fun i j x y hx hy hij k hk => ?_⟩
  · rcases Nat.lt_trichotomy i us.length with hi | hi | hi
    · rw [List.getElem?_append_left hi] at hx
      rw [List.getElem?_append_left (by rw [← h.len]; exact hi)] at hq
      exact key _ _ _ (h.each i x q hx hq)
    · subst hi
      rw [List.getElem?_append_right (Nat.le_refl _), Nat.sub_self] at hx
      rw [h.len, List.getElem?_append_right (Nat.le_refl _), Nat.sub_self] at hq
      simp at hx hq
      subst hx hq
      exact key _ _ _ hu
    · rw [List.getElem?_eq_none (by simp; omega)] at hx; cases hx
  · have at' : ∀ i x, (us ++ [u])[i]? = some x → (i < us.length ∧ us[i]? = some x) ∨ (i = us.length ∧ x = u) := by
      intro i x hx
      rcases Nat.lt_trichotomy i us.length with hi | hi | hi
      · rw [List.getElem?_append_left hi] at hx; exact .inl ⟨hi, hx⟩
      · subst hi
        rw [List.getElem?_append_right (Nat.le_refl _), Nat.sub_self] at hx
        simp at hx
        exact .inr ⟨rfl, hx.symm⟩
      · rw [List.getElem?_eq_none (by simp; omega)] at hx; cases hx
    rcases at' i x hx with ⟨h1, h2⟩ | ⟨h1, h2⟩ <;> rcases at' j y hy with ⟨h3, h4⟩ | ⟨h3, h4⟩
    · exact h.apt i j x y h2 h4 hij k hk
    · subst h4; exact hap x (List.mem_of_getElem? h2) k hk
    · subst h2; intro e1; exact hap y (List.mem_of_getElem? h4) k e1 hk
    · omega
end
end Go.Proofs.YtepjpdhmjchakaaDoor
