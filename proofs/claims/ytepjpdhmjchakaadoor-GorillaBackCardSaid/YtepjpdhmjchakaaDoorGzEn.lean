/- Encode's state in memory: the list of chunks so far, the appender. -/
import Derived.Test.YtepjpdhmjchakaaDoorGzCut
import Derived.Test.YtepjpdhmjchakaaDoorGzOwn
namespace Go.Proofs.YtepjpdhmjchakaaDoor
open Go.RowKit
set_option linter.unusedVariables false

/-- A good list's chunks are small. -/
theorem cut_small {l : List Gz.Smp} (h : Gz.Good l) : ∀ c ∈ Gz.cut l, c.d.length ≤ 140737488355328 := by
  obtain ⟨P, _, hP, e⟩ := Gz.cut_pieces h
  rw [e]
  intro c hc
  obtain ⟨p, hp, rfl⟩ := List.mem_map.1 hc
  have hk := Gz.all_ok (hP p hp)
  have h1 := hk.len
  have h2 := hk.n
  have h3 := Bt.pack_len (Gz.Ap.all p).L
  show (Bt.pack (Gz.Ap.all p).L).length ≤ _
  omega
structure En (w : World) (base : Nat) (v : Value) (us : List Value) (P B : Nat) (r : Option Nat) (st : List Ck × Gz.Ap) : Prop where
  ap : Apm w P B r st.2
  row : CRow w base v us st.1
  loP : base ≤ P
  loB : base ≤ B
  lor : ∀ k, r = some k → base ≤ k
  off : ∀ u ∈ us, ∀ k, u.ownBlock = some k → r ≠ some k
theorem typ_ne {w : World} {k P : Nat} {e e' : TypeId} {cs cs' : Array Value} {z z' : Nat × Nat} (h : w.heap[k]? = some (.cells cs e z)) (h' : w.heap[P]? = some (.cells cs' e' z')) (hne : e ≠ e') : k ≠ P := by
  rintro rfl
  rw [h] at h'
  injection h' with h'
  injection h' with _ h'
  exact hne h'
section
variable {w w' w1 w2 : World} {base P B : Nat} {v v' : Value} {us : List Value} {r r' : Option Nat} {st : List Ck × Gz.Ap} {cs : List Ck}
theorem En.keep (h : En w base v us P B r st) (hg : Ga P B r w w') : CRow w' base v us st.1 := by
  obtain ⟨⟨uu, hB, hown, hr⟩, hne⟩ := h.ap.wr
  have key : ∀ k, k < w.heap.size → k ≠ P → k ≠ B → r ≠ some k → w'.heap[k]? = w.heap[k]? := fun k a b c d => hg.block k a b c (fun e => d e.symm)
  refine h.row.same (fun k hk => ?_) (fun u hu k hk => ?_)
  · obtain ⟨cs, hc⟩ := own_block h.row.row k hk
    exact key k (h.row.lt.1 k hk).2 (typ_ne hc h.ap.top (by decide)) (typ_ne hc hB (by decide)) (fun e => own_apart' h.row.row hown (by decide) k hk (hr.trans e))
  · obtain ⟨i, hi⟩ := List.getElem?_of_mem hu
    obtain ⟨c, _, h2⟩ := h.row.at hi
    obtain ⟨cs, hc⟩ := own_block h2 k hk
    exact key k (h.row.lt.2 u hu k hk).2 (typ_ne hc h.ap.top (by decide)) (typ_ne hc hB (by decide)) (h.off u hu k hk)
theorem En.app (h : En w base v us P B r st) {a' : Gz.Ap} (hg : Ga P B r w w') (ha : Apm w' P B r' a') (hr : Anew w r r') : En w' base v us P B r' (st.1, a') :=
  ⟨ha, h.keep hg, h.loP, h.loB, fun k hk => (hr k hk).elim (h.lor k) (fun h2 => by have := h.ap.lts.1; have := h.loP; omega), fun u hu k hk e => (hr k e).elim (h.off u hu k hk) (fun h2 => by have := (h.row.lt.2 u hu k hk).2; omega)⟩
theorem En.below (h : En w base v us P B r st) (hb : Below w.heap.size w w') : En w' base v us P B r st := ⟨h.ap.below hb, h.row.below hb (Nat.le_refl _), h.loP, h.loB, h.lor, h.off⟩
theorem En.lay (h : En w base v us P B r st) (hb : Below w.heap.size w w1) {u : Value} {c : Ck} (hu : w1.ownsRow w.heap.size 5 1 u c.d.length (c.d.map f8))
    (hrow : w2.ownsRow base 73 4 v' (st.1.length + 1) (cks st.1 us ++ ckc c u)) (g : w1.grownBy w2 v.ownBlock) : CRow w2 base v' (us ++ [u]) (st.1 ++ [c]) :=
  (h.row.below hb (Nat.le_refl _)).snoc (own_low hu (by have := h.ap.lts.1; have := h.loP; omega)) (fun x hx k hk e => by have := (h.row.lt.2 x hx k hk).2; have := own_from hu k e; omega) hrow g
theorem En.fresh (hc : CRow w base v us cs) (hbase : base ≤ w.heap.size) (hb : Below w.heap.size w w') (ha : Apm w' (w.heap.size + 1) w.heap.size none Gz.Ap.new) : En w' base v us (w.heap.size + 1) w.heap.size none (cs, Gz.Ap.new) :=
  ⟨ha, hc.below hb (Nat.le_refl _), by omega, hbase, (fun k hk => by cases hk), (fun u hu k hk e => by cases e)⟩
end
end Go.Proofs.YtepjpdhmjchakaaDoor
