/- What GorillaMakes has in memory: the program's appender, the document's, the book. -/
import Derived.Test.YtepjpdhmjchakaaDoorRz3
import Derived.Test.YtepjpdhmjchakaaDoorBookPut
namespace Go.Proofs.YtepjpdhmjchakaaDoor
open Go.RowKit
set_option linter.unusedVariables false

/-- The block k has cells of the type t. -/
def Ty (w : World) (k : Nat) (t : TypeId) : Prop := ∃ cs fz, w.heap[k]? = some (.cells cs t fz)
theorem Ty.ne {w : World} {k k' : Nat} {t t' : TypeId} (h : Ty w k t) (h' : Ty w k' t') (hne : t ≠ t') : k ≠ k' := by
  rintro rfl
  obtain ⟨cs, fz, h⟩ := h
  obtain ⟨cs', fz', h'⟩ := h'
  rw [h] at h'
  injection h' with h'
  injection h' with _ h'
  exact hne h'
theorem Ty.own {w : World} {base : Nat} {e : TypeId} {s : Nat} {v : Value} {n : Nat} {xs : List Value} (h : w.ownsRow base e s v n xs) {k : Nat} (hk : v.ownBlock = some k) : Ty w k e := by
  obtain ⟨cs, hc⟩ := own_block h k hk
  exact ⟨cs, _, hc⟩
theorem Book.same {w w' : World} {base K : Nat} {vb : Value} {vs : List Value} {ln : Nat → Nat} (h : Book w base K vb vs ln) (h0 : w'.heap[K]? = w.heap[K]?) (h1 : ∀ k, vb.ownBlock = some k → w'.heap[k]? = w.heap[k]?) (h2 : ∀ u ∈ vs, ∀ k, u.ownBlock = some k → w'.heap[k]? = w.heap[k]?) : Book w' base K vb vs ln :=
  ⟨h0.trans h.cell, Bk.start (own_of_same h.bytes.row h1) (fun j u hu => by
    obtain ⟨xs, hx, _⟩ := h.bytes.rows j u hu
    exact ⟨xs, own_of_same hx (h2 u (List.mem_of_getElem? hu))⟩), h.apt⟩
theorem Book.each {w : World} {base K : Nat} {vb : Value} {vs : List Value} {ln : Nat → Nat} (h : Book w base K vb vs ln) {u : Value} (hu : u ∈ vs) : ∃ n xs, w.ownsRow base 5 1 u n xs := by
  obtain ⟨j, hj⟩ := List.getElem?_of_mem hu
  obtain ⟨xs, hx, _⟩ := h.bytes.rows j u hj
  exact ⟨_, xs, hx⟩

structure Mk (w : World) (base P B X K : Nat) (r : Option Nat) (v vb : Value) (vs : List Value) (ln : Nat → Nat) (la lx : List Gz.Smp) : Prop where
  ap : Apm w P B r (Gz.Ap.all la)
  xa : Xa w X base v lx
  bk : Book w base K vb vs ln
  lo : base ≤ P ∧ base ≤ B ∧ base ≤ X ∧ base ≤ K
  lor : ∀ k, r = some k → base ≤ k
  off : ∀ u ∈ vs, ∀ k, u.ownBlock = some k → r ≠ some k
  small : ∀ j, ln j ≤ 1099511627776
section
variable {w w' : World} {base P B X K : Nat} {r r' : Option Nat} {v v' vb vb' : Value} {vs : List Value} {ln ln' : Nat → Nat} {la la' lx lx' : List Gz.Smp}
theorem Mk.types (h : Mk w base P B X K r v vb vs ln la lx) : Ty w P 96 ∧ Ty w B 151 ∧ (∀ k, r = some k → Ty w k 5) ∧ Ty w X 28 ∧ (∀ k, v.ownBlock = some k → Ty w k 70) ∧ Ty w K 63 ∧ (∀ k, vb.ownBlock = some k → Ty w k 71) ∧ (∀ u ∈ vs, ∀ k, u.ownBlock = some k → Ty w k 5) := by
  obtain ⟨⟨u, hB, hown, hr⟩, _⟩ := h.ap.wr
  exact ⟨⟨_, _, h.ap.top⟩, ⟨_, _, hB⟩, fun k hk => Ty.own hown (hr.trans hk), ⟨_, _, h.xa.top⟩, fun k hk => Ty.own h.xa.row hk, ⟨_, _, h.bk.cell⟩, fun k hk => Ty.own h.bk.bytes.row hk, fun u hu k hk => by
    obtain ⟨n, xs, hx⟩ := h.bk.each hu
    exact Ty.own hx hk⟩
theorem Mk.lts (h : Mk w base P B X K r v vb vs ln la lx) : X < w.heap.size ∧ K < w.heap.size ∧ (∀ k, v.ownBlock = some k → k < w.heap.size) ∧ (∀ k, vb.ownBlock = some k → k < w.heap.size) ∧ (∀ u ∈ vs, ∀ k, u.ownBlock = some k → k < w.heap.size) :=
  ⟨heap_lt h.xa.top, heap_lt h.bk.cell, fun k hk => (h.xa.row.lt k hk).2, fun k hk => (h.bk.bytes.row.lt k hk).2, fun u hu k hk => by
    obtain ⟨n, xs, hx⟩ := h.bk.each hu
    exact (hx.lt k hk).2⟩
theorem Mk.below (h : Mk w base P B X K r v vb vs ln la lx) (hb : Below w.heap.size w w') : Mk w' base P B X K r v vb vs ln la lx := by
  obtain ⟨l1, l2, l3, l4, l5⟩ := h.lts
  exact ⟨h.ap.below hb, h.xa.below hb, h.bk.same (hb.block K l2) (fun k hk => hb.block k (l4 k hk)) (fun u hu k hk => hb.block k (l5 u hu k hk)), h.lo, h.lor, h.off, h.small⟩
theorem Mk.app (h : Mk w base P B X K r v vb vs ln la lx) (hg : Ga P B r w w') (ha : Apm w' P B r' (Gz.Ap.all la')) (hn : Anew w r r') : Mk w' base P B X K r' v vb vs ln la' lx := by
  obtain ⟨t1, t2, t3, t4, t5, t6, t7, t8⟩ := h.types
  obtain ⟨l1, l2, l3, l4, l5⟩ := h.lts
  have key : ∀ k t, k < w.heap.size → Ty w k t → t ≠ 96 → t ≠ 151 → (r ≠ some k) → w'.heap[k]? = w.heap[k]? := fun k t hk ht h1 h2 h3 => hg.block k hk (ht.ne t1 h1) (ht.ne t2 h2) (fun e => h3 e.symm)
  have kt : ∀ k t, Ty w k t → t ≠ 5 → r ≠ some k := fun k t ht h1 e => (ht.ne (t3 k e) h1) rfl
  refine ⟨ha, ⟨(key X _ l1 t4 (by decide) (by decide) (kt X _ t4 (by decide))).trans h.xa.top, own_of_same h.xa.row (fun k hk => key k _ (l3 k hk) (t5 k hk) (by decide) (by decide) (kt k _ (t5 k hk) (by decide)))⟩,
    h.bk.same (key K _ l2 t6 (by decide) (by decide) (kt K _ t6 (by decide))) (fun k hk => key k _ (l4 k hk) (t7 k hk) (by decide) (by decide) (kt k _ (t7 k hk) (by decide))) (fun u hu k hk => key k _ (l5 u hu k hk) (t8 u hu k hk) (by decide) (by decide) (h.off u hu k hk)),
    h.lo, fun k hk => (hn k hk).elim (h.lor k) (fun h2 => by have := h.lo.2.2.1; omega), fun u hu k hk e => (hn k e).elim (h.off u hu k hk) (fun h2 => by have := l5 u hu k hk; omega), h.small⟩
/-- The appender's blocks are as they were. -/
theorem Apm.same {a : Gz.Ap} (h : Apm w P B r a) (h1 : w'.heap[P]? = w.heap[P]?) (h2 : w'.heap[B]? = w.heap[B]?) (h3 : ∀ k, r = some k → w'.heap[k]? = w.heap[k]?) : Apm w' P B r a := by
  obtain ⟨⟨u, hB, hown, hr⟩, hne⟩ := h.wr
  exact ⟨h1.trans h.top, ⟨⟨u, h2.trans hB, own_of_same hown (fun k hk => h3 k (hr.symm.trans hk)), hr⟩, hne⟩⟩
theorem Mk.xapp (h : Mk w base P B X K r v vb vs ln la lx) (hg : Gro X v.ownBlock w w') (hx : Xa w' X base v' lx') : Mk w' base P B X K r v' vb vs ln la lx' := by
  obtain ⟨t1, t2, t3, t4, t5, t6, t7, t8⟩ := h.types
  obtain ⟨l1, l2, l3, l4, l5⟩ := h.lts
  obtain ⟨q1, q2, q3⟩ := h.ap.lts
  have key : ∀ k t, k < w.heap.size → Ty w k t → t ≠ 28 → t ≠ 70 → w'.heap[k]? = w.heap[k]? := fun k t hk ht h1 h2 => hg.block k hk (ht.ne t4 h1) (fun e => (ht.ne (t5 k e.symm) h2) rfl)
  exact ⟨h.ap.same (key P _ q1 t1 (by decide) (by decide)) (key B _ q2 t2 (by decide) (by decide)) (fun k hk => key k _ (q3 k hk) (t3 k hk) (by decide) (by decide)), hx,
    h.bk.same (key K _ l2 t6 (by decide) (by decide)) (fun k hk => key k _ (l4 k hk) (t7 k hk) (by decide) (by decide)) (fun u hu k hk => key k _ (l5 u hu k hk) (t8 u hu k hk) (by decide) (by decide)), h.lo, h.lor, h.off, h.small⟩
theorem Mk.put (h : Mk w base P B X K r v vb vs ln la lx) {u : Value} (hg : Gro K vb.ownBlock w w') (hb : Book w' base K vb' (vs ++ [u]) ln') (hu : ∀ k, u.ownBlock = some k → r ≠ some k) (hs : ∀ j, ln' j ≤ 1099511627776) : Mk w' base P B X K r v vb' (vs ++ [u]) ln' la lx := by
  obtain ⟨t1, t2, t3, t4, t5, t6, t7, t8⟩ := h.types
  obtain ⟨l1, l2, l3, l4, l5⟩ := h.lts
  obtain ⟨q1, q2, q3⟩ := h.ap.lts
  have key : ∀ k t, k < w.heap.size → Ty w k t → t ≠ 63 → t ≠ 71 → w'.heap[k]? = w.heap[k]? := fun k t hk ht h1 h2 => hg.block k hk (ht.ne t6 h1) (fun e => (ht.ne (t7 k e.symm) h2) rfl)
  refine ⟨h.ap.same (key P _ q1 t1 (by decide) (by decide)) (key B _ q2 t2 (by decide) (by decide)) (fun k hk => key k _ (q3 k hk) (t3 k hk) (by decide) (by decide)),
    ⟨(key X _ l1 t4 (by decide) (by decide)).trans h.xa.top, own_of_same h.xa.row (fun k hk => key k _ (l3 k hk) (t5 k hk) (by decide) (by decide))⟩, hb, h.lo, h.lor, fun x hx k hk => ?_, hs⟩
  rcases List.mem_append.1 hx with hx | hx
  · exact h.off x hx k hk
  · simp at hx
    subst hx
    exact hu k hk
end
end Go.Proofs.YtepjpdhmjchakaaDoor
