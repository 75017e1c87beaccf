/- A write into the cache: the state while it is built, lengthened and stored. -/
import Derived.Test.YtnplcfgjidolbaaDiskOps
import Derived.Test.YtnplcfgjidolbaaDiskArr
import Derived.Test.YtnplcfgjidolbaaReader
namespace Go.Proofs.Ytnplcfgjidolbaa
open Go.RowKit Go.Maps

theorem block_ne {w : World} {b c : Nat} {cs cs' : Array Value} {t t' : TypeId} {f f' : Nat × Nat} (h : w.heap[b]? = some (.cells cs t f)) (k : w.heap[c]? = some (.cells cs' t' f')) (hne : t ≠ t') : b ≠ c := by
  intro e
  subst e
  rw [h] at k
  injection k with k
  injection k with _ k
  exact hne k
theorem own_block {w : World} {base : Nat} {e : TypeId} {s : Nat} {v : Value} {n : Nat} {xs : List Value} (h : w.ownsRow base e s v n xs) : ∀ k, v.ownBlock = some k → ∃ cs, w.heap[k]? = some (.cells cs e (0, 0)) := by
  intro k hk
  obtain ⟨_, ⟨rfl, _⟩ | ⟨g, c, cur, rfl, _, hh, _⟩⟩ := h
  · cases hk
  · have e2 : g = k := by injection hk
    exact ⟨cur, by rw [← e2]; exact hh⟩
theorem own_not {w : World} {base : Nat} {e : TypeId} {s : Nat} {v : Value} {n : Nat} {xs : List Value} (h : w.ownsRow base e s v n xs) {B : Nat} {cs : Array Value} {t : TypeId} {fr : Nat × Nat} (hB : w.heap[B]? = some (.cells cs t fr)) (hne : e ≠ t) : some B ≠ v.ownBlock := by
  intro e1
  obtain ⟨cs', h1⟩ := own_block h B e1.symm
  exact block_ne h1 hB hne rfl
theorem own_grown {w w' : World} {r : Option Nat} (g : w.grownBy w' r) {base : Nat} {e : TypeId} {s : Nat} {v : Value} {n : Nat} {xs : List Value} (h : w.ownsRow base e s v n xs) (hr : ∀ k, r = some k → ∃ cs t f, w.heap[k]? = some (.cells cs t f) ∧ t ≠ e) : w'.ownsRow base e s v n xs :=
  own_of_same h (fun k hk => g.block k (h.lt k hk).2 (fun e1 => by
    obtain ⟨cs, h1⟩ := own_block h k hk
    obtain ⟨cs', t, f, h2, h3⟩ := hr k e1.symm
    exact block_ne h2 h1 h3 rfl))
theorem map_kept {w w' : World} {bm n : Nat} {D : DataW Unit} (h : w.ownsMap Try.prog 3 (plainElem Try.prog 3) bm n D) (hb : w'.heap[bm]? = w.heap[bm]?) : w'.ownsMap Try.prog 3 (plainElem Try.prog 3) bm n D := by
  obtain ⟨es, cl, e1, e2⟩ := h
  exact ⟨es, cl, hb.trans e1, e2⟩
theorem map_not {w : World} {bm n : Nat} {D : DataW Unit} (h : w.ownsMap Try.prog 3 (plainElem Try.prog 3) bm n D) {B : Nat} {cs : Array Value} {t : TypeId} {fr : Nat × Nat} (hB : w.heap[B]? = some (.cells cs t fr)) : bm ≠ B := by
  intro e
  subst e
  obtain ⟨es, cl, e1, _⟩ := h
  rw [hB] at e1
  cases e1

/-- While a write is built: the captured variables, the disk, the bytes, the cache's row. -/
structure Wst (w W : World) (base b0 B lb bm pa pd pb sb cap : Nat) (cv : Value) (a : Nat) (s : List UInt8) (d : Dsk) (cvr : Value) (n : Nat) (xs : List Value) : Prop where
  ca : W.heap[pa]? = some (.cells #[.int .i64 (a : Int)] 3 (0, 0))
  cd : W.heap[pd]? = some (.cells #[.pointer (some ⟨B, 0, none⟩)] 92 (0, 0))
  cb : W.heap[pb]? = some (.cells #[.slice (some ⟨sb, 0, none⟩) 256 cap] 22 (0, 0))
  top : W.heap[B]? = some (.cells (dkTop lb bm cv d) 164 (0, 0))
  las : W.heap[lb]? = some (.cells (d.ls.flatMap sec).toArray 168 (0, 0))
  data : W.ownsRow b0 5 1 (.slice (some ⟨sb, 0, none⟩) 256 cap) 256 (s.map f8)
  cache : W.ownsRow base 170 257 cvr n xs
  map : ∃ D : DataW Unit, W.ownsMap Try.prog 3 (plainElem Try.prog 3) bm (d.cs.length + 1) D ∧ Seen D (d.cs ++ [(a, s)])
  fr : Dfr base w W
  lo : base ≤ B ∧ base ≤ lb ∧ base ≤ bm

section
variable {w W W' : World} {base b0 B lb bm pa pd pb sb cap : Nat} {cv : Value} {a : Nat} {s : List UInt8} {d : Dsk} {cvr : Value} {n : Nat} {xs : List Value}
theorem Wst.below (h : Wst w W base b0 B lb bm pa pd pb sb cap cv a s d cvr n xs) (hb : Below W.heap.size W W') : Wst w W' base b0 B lb bm pa pd pb sb cap cv a s d cvr n xs := by
  obtain ⟨D, h1, h2⟩ := h.map
  have key : ∀ {k : Nat} {o : Obj}, W.heap[k]? = some o → W'.heap[k]? = some o := fun hk => (hb.block _ (heap_lt' hk)).trans hk
  have hsz : base ≤ W.heap.size := by have := h.lo.1; have := heap_lt' h.top; omega
  exact ⟨key h.ca, key h.cd, key h.cb, key h.top, key h.las, own_of_same h.data (fun k hk => hb.block k (h.data.lt k hk).2), own_of_same h.cache (fun k hk => hb.block k (h.cache.lt k hk).2),
    ⟨D, map_kept h1 (by obtain ⟨es, cl, e1, _⟩ := h1; exact hb.block bm (heap_lt' e1)), h2⟩, h.fr.trans (Dfr.ofBelow hb hsz), h.lo⟩
theorem Wst.cells (h : Wst w W base b0 B lb bm pa pd pb sb cap cv a s d cvr n xs) : W.cell? ⟨pa, 0, none⟩ = some (.int .i64 (a : Int)) ∧ W.cell? ⟨pd, 0, none⟩ = some (.pointer (some ⟨B, 0, none⟩)) ∧ W.cell? ⟨pb, 0, none⟩ = some (.slice (some ⟨sb, 0, none⟩) 256 cap) ∧
    W.cell? ⟨B, 1, none⟩ = some cv ∧ W.cell? ⟨B, 2, none⟩ = some (.map (some bm)) ∧ W.rangeAt sb 0 (sec s) ∧ W.frozen? ⟨B, 1, none⟩ = false := by
  refine ⟨(cell_of_row _ _ _ _ _ _ h.ca).trans rfl, (cell_of_row _ _ _ _ _ _ h.cd).trans rfl, (cell_of_row _ _ _ _ _ _ h.cb).trans rfl, (cell_of_row _ _ _ _ _ _ h.top).trans rfl, (cell_of_row _ _ _ _ _ _ h.top).trans rfl, fun j v hv => ?_, frozen_of_row _ _ _ _ _ h.top⟩
  have hl := h.data.1
  have hj : j < 256 := by
    have := (List.getElem?_eq_some_iff.1 hv).1
    rw [sec_len] at this
    simp at hl
    omega
  rw [Nat.zero_add, h.data.cellAt j (by omega)]
  exact hv
/-- The row is lengthened. -/
theorem Wst.grow (h : Wst w W base b0 B lb bm pa pd pb sb cap cv a s d cvr n xs) (g : W.grownBy W' cvr.ownBlock) {cvr' : Value} {n' : Nat} {xs' : List Value} (hown : W'.ownsRow base 170 257 cvr' n' xs') : Wst w W' base b0 B lb bm pa pd pb sb cap cv a s d cvr' n' xs' := by
  obtain ⟨D, h1, h2⟩ := h.map
  have key : ∀ {k : Nat} {cs : Array Value} {t : TypeId} {f : Nat × Nat}, W.heap[k]? = some (.cells cs t f) → 170 ≠ t → W'.heap[k]? = some (.cells cs t f) := fun hk hne => (g.block _ (heap_lt' hk) (own_not h.cache hk hne)).trans hk
  refine ⟨key h.ca (by decide), key h.cd (by decide), key h.cb (by decide), key h.top (by decide), key h.las (by decide), own_grown g h.data (fun k hk => ?_), hown, ⟨D, map_kept h1 ?_, h2⟩, h.fr.trans ⟨⟨g.os, g.tape, g.output, g.size, fun k hk => ?_⟩, fun k cs t f hk a1 a2 a3 => g.block k (heap_lt' hk) (own_not h.cache hk (fun e => a3 e.symm))⟩, h.lo⟩
  · obtain ⟨cs, hc⟩ := own_block h.cache k hk
    exact ⟨cs, 170, _, hc, by decide⟩
  · have hm : bm < W.heap.size := by obtain ⟨es, cl, e1, _⟩ := h1; exact heap_lt' e1
    refine g.block bm hm (fun e => ?_)
    obtain ⟨cs, hc⟩ := own_block h.cache bm e.symm
    exact map_not h1 hc rfl
  · refine g.block k (by have := heap_lt' h.top; have := h.lo.1; omega) (fun e => ?_)
    have := (h.cache.lt k e.symm).1
    omega
/-- The row is stored. -/
theorem Wst.done (h : Wst w W base b0 B lb bm pa pd pb sb cap cv a s d cvr (d.cs.length + 1) (d.cs.flatMap wcl ++ wcl (a, s))) (hok : d.ok) (hl : s.length = 256) (ha : a < d.ls.length) :
    Dk (W.setCell ⟨B, 1, none⟩ cvr) base B lb bm cvr { d with cs := d.cs ++ [(a, s)] } ∧ Dfr base w (W.setCell ⟨B, 1, none⟩ cvr) := by
  obtain ⟨D, h1, h2⟩ := h.map
  refine ⟨⟨?_, ?_, ?_, ⟨D, ?_, h2⟩, ⟨hok.1, fun c hc => ?_⟩, h.lo⟩, h.fr.trans (Dfr.one h.top (.inl rfl) h.lo.1 rfl rfl rfl (by simp) (fun k hk => heap_setCell_other _ _ _ _ hk))⟩
  · rw [heap_setCell_same _ _ _ _ _ _ h.top]; rfl
  · rw [heap_setCell_other _ _ _ _ (block_ne h.las h.top (by decide))]; exact h.las
  · have e : (d.cs ++ [(a, s)]).flatMap wcl = d.cs.flatMap wcl ++ wcl (a, s) := by simp
    simp only [List.length_append, List.length_singleton, e]
    exact own_of_same h.cache (fun k hk => heap_setCell_other _ _ _ _ (fun e1 => own_not h.cache h.top (by decide) (by rw [hk, e1])))
  · simp only [List.length_append, List.length_singleton]
    exact map_kept h1 (heap_setCell_other _ _ _ _ (map_not h1 h.top))
  · rcases List.mem_append.1 hc with hc | hc
    · exact hok.2 c hc
    · simp at hc
      subst hc
      exact ⟨hl, ha⟩
end
/-- The map is written: the write's state begins. -/
theorem wst_start {w w2 : World} {base b0 B lb bm pa pd pb sb cap : Nat} {cv : Value} {a : Nat} {s : List UInt8} {d : Dsk} (h : Dk w base B lb bm cv d) (hd : w.ownsRow b0 5 1 (.slice (some ⟨sb, 0, none⟩) 256 cap) 256 (s.map f8))
    (ca : w.heap[pa]? = some (.cells #[.int .i64 (a : Int)] 3 (0, 0))) (cd : w.heap[pd]? = some (.cells #[.pointer (some ⟨B, 0, none⟩)] 92 (0, 0))) (cb : w.heap[pb]? = some (.cells #[.slice (some ⟨sb, 0, none⟩) 256 cap] 22 (0, 0)))
    {D : DataW Unit} (hm : w2.ownsMap Try.prog 3 (plainElem Try.prog 3) bm (d.cs.length + 1) D) (hs : Seen D (d.cs ++ [(a, s)])) (g : w.grownBy w2 (some bm)) : Wst w w2 base b0 B lb bm pa pd pb sb cap cv a s d cv d.cs.length (d.cs.flatMap wcl) := by
  obtain ⟨D0, h1, _⟩ := h.seen
  have key : ∀ {k : Nat} {cs : Array Value} {t : TypeId} {f : Nat × Nat}, w.heap[k]? = some (.cells cs t f) → w2.heap[k]? = w.heap[k]? := fun hk => g.block _ (heap_lt' hk) (fun e => by injection e with e; exact map_not h1 hk e.symm)
  have own : ∀ {b : Nat} {e : TypeId} {q : Nat} {v : Value} {n : Nat} {xs : List Value}, w.ownsRow b e q v n xs → w2.ownsRow b e q v n xs := fun hv => own_of_same hv (fun k hk => by obtain ⟨cs, hc⟩ := own_block hv k hk; exact key hc)
  exact ⟨(key ca).trans ca, (key cd).trans cd, (key cb).trans cb, (key h.top).trans h.top, (key h.las).trans h.las, own hd, own h.cache, ⟨D, hm, hs⟩,
    ⟨⟨g.os, g.tape, g.output, g.size, fun k hk => g.block k (by have := heap_lt' h.top; have := h.lo.1; omega) (fun e => by injection e with e; have := h.lo.2.2; omega)⟩, fun k cs t f hk _ _ _ => key hk⟩, h.lo⟩
end Go.Proofs.Ytnplcfgjidolbaa
