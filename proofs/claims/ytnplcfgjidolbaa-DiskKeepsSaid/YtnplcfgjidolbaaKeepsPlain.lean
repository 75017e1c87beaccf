/- DiskKeeps: a disk that is neither dark nor tripped, whatever its counts; the sectors that it should have. -/
import Derived.Test.YtnplcfgjidolbaaDiskFlush
import Derived.Test.YtnplcfgjidolbaaTripPlain
namespace Go.Proofs.Ytnplcfgjidolbaa
open Go.RowKit Go.Maps

/-- The disk, its counts at most N. -/
def Kc (w wr : World) (B lb bm : Nat) (ls : List (List UInt8)) (cs : List (Nat × List UInt8)) (N : Nat) : Prop :=
  ∃ d : Dsk, Kd w wr B lb bm d ∧ d.dark = false ∧ d.trip = -1 ∧ d.ls = ls ∧ d.cs = cs ∧ (0 ≤ d.rd ∧ d.rd ≤ (N : Int)) ∧ (0 ≤ d.wr ∧ d.wr ≤ (N : Int)) ∧ (0 ≤ d.fl ∧ d.fl ≤ (N : Int))
section
variable {w wr w' : World} {B lb bm : Nat} {ls : List (List UInt8)} {cs : List (Nat × List UInt8)} {N : Nat}
theorem Kc.below (h : Kc w wr B lb bm ls cs N) : Below w.heap.size w wr := by obtain ⟨d, h, _⟩ := h; exact h.2
theorem Kc.step (h : Kc w wr B lb bm ls cs N) (hb : Below wr.heap.size wr w') : Kc w w' B lb bm ls cs N := by
  obtain ⟨d, h, h2⟩ := h; exact ⟨d, h.step hb, h2⟩
theorem kcwrite (h : Kc w wr B lb bm ls cs N) (h1 : ls.length ≤ 16384) (h2 : cs.length ≤ 100000000) (hN : N ≤ 1000000000) (a : Int) (ha : 0 ≤ a ∧ a < (ls.length : Int)) (v : Value) (s : List UInt8) (hl : s.length = 256) (b0 : Nat) (hv : wr.ownsRow b0 5 1 v s.length (s.map f8)) :
    Calls Try.prog 32 #[.pointer (some ⟨B, 0, none⟩), .int .i64 a, v] wr fun e w' => e = .returned (.int .u16 0) ∧ Kc w w' B lb bm ls (cs ++ [(a.toNat, s)]) (N + 1) ∧ Dfr w.heap.size wr w' := by
  obtain ⟨d, hk, e1, e2, e3, e4, e5, e6, e7⟩ := h
  subst e3 e4
  refine (kwrite hk ⟨h1, h2, by omega, by omega, by omega, by omega⟩ e1 e2 a ha v s hl b0 hv).mono ?_
  rintro e w' ⟨he, h3, h4⟩
  refine ⟨he, ⟨_, h3, e1, e2, rfl, rfl, ?_, ?_, ?_⟩, h4⟩
  · show 0 ≤ d.rd ∧ d.rd ≤ _; omega
  · show 0 ≤ d.wr + 1 ∧ d.wr + 1 ≤ _; omega
  · show 0 ≤ d.fl ∧ d.fl ≤ _; omega
theorem kcread (h : Kc w wr B lb bm ls [] N) (h1 : ls.length ≤ 16384) (hN : N ≤ 1000000000) (a : Nat) (ha : a < ls.length) :
    Calls Try.prog 39 #[.pointer (some ⟨B, 0, none⟩), .int .i64 (a : Int)] wr fun e w' => ∃ v, e = .returned (.tuple #[v, .int .u16 0]) ∧ Kc w w' B lb bm ls [] (N + 1) ∧ w'.ownsRow w.heap.size 5 1 v ls[a].length (ls[a].map f8) ∧ ls[a].length = 256 ∧ Dfr w.heap.size wr w' := by
  obtain ⟨d, hk, e1, e2, e3, e4, e5, e6, e7⟩ := h
  subst e3
  have hg : d.get (a : Int).toNat = d.ls[a] := by
    unfold Dsk.get
    rw [e4, Int.toNat_natCast]
    show d.ls.getD a [] = _
    simp [List.getD, ha]
  refine (kread hk ⟨h1, by rw [e4]; simp, by omega, by omega, by omega, by omega⟩ e1 e2 (a : Int) (by omega)).mono ?_
  rintro e w' ⟨v, he, h3, h4, h5, h6⟩
  rw [hg] at h4 h5
  refine ⟨v, he, ⟨_, h3, e1, e2, rfl, e4, ?_, ?_, ?_⟩, by rw [h5]; exact h4, h5, h6⟩
  · show 0 ≤ d.rd + 1 ∧ d.rd + 1 ≤ _; omega
  · show 0 ≤ d.wr ∧ d.wr ≤ _; omega
  · show 0 ≤ d.fl ∧ d.fl ≤ _; omega
theorem kccut (h : Kc w wr B lb bm ls cs N) (h2 : cs.length ≤ 100000000) (kv : Value) (keep : List Bool) (hkeep : ∀ W, Dfr w.heap.size wr W → Sl 0 W.heap.size fB W kv keep) :
    Calls Try.prog 38 #[.pointer (some ⟨B, 0, none⟩), kv] wr fun e w' => e = .returned (.tuple #[]) ∧ Kc w w' B lb bm (settled ls cs (fun i => keep.getD i false)) [] N ∧ Dfr w.heap.size wr w' := by
  obtain ⟨d, hk, e1, e2, e3, e4, e5, e6, e7⟩ := h
  subst e3 e4
  refine (kcut hk h2 kv keep hkeep).mono ?_
  rintro e w' ⟨he, h3, h4⟩
  exact ⟨he, ⟨_, h3, rfl, rfl, rfl, rfl, e5, e6, e7⟩, h4⟩
theorem kcflush (h : Kc w wr B lb bm ls cs N) (h1 : ls.length ≤ 16384) (h2 : cs.length ≤ 100000000) (hN : N ≤ 1000000000) :
    Calls Try.prog 40 #[.pointer (some ⟨B, 0, none⟩)] wr fun e w' => e = .returned (.int .u16 0) ∧ Kc w w' B lb bm (settled ls cs (fun _ => true)) [] (N + 1) ∧ Dfr w.heap.size wr w' := by
  obtain ⟨d, ⟨⟨cv, hk⟩, hb⟩, e1, e2, e3, e4, e5, e6, e7⟩ := h
  subst e3 e4
  have hbg : d.begins = (d, true) := by unfold Dsk.begins; rw [if_neg (by rw [e1]; decide), if_neg (by rw [e2]; decide), if_neg (by rw [e2]; decide)]
  have hfl : d.flushed = ({ d with fl := d.fl + 1, ls := settled d.ls d.cs (fun _ => true), cs := [] }, 0) := by unfold Dsk.flushed; rw [hbg, if_neg (by simp)]
  refine (dflush_any wr w.heap.size B lb bm cv d hk ⟨h1, h2, by omega, by omega, by omega, by omega⟩).mono ?_
  rintro e w' ⟨he, ⟨cv', h3, h4⟩⟩
  rw [hfl] at he h3
  refine ⟨he, ⟨_, ⟨⟨cv', h3⟩, hb.trans h4.below⟩, e1, e2, rfl, rfl, ?_, ?_, ?_⟩, h4⟩
  · show 0 ≤ d.rd ∧ d.rd ≤ _; omega
  · show 0 ≤ d.wr ∧ d.wr ≤ _; omega
  · show 0 ≤ d.fl + 1 ∧ d.fl + 1 ≤ _; omega
theorem kcimage (h : Kc w wr B lb bm ls cs N) (h1 : ls.length ≤ 16384) :
    Calls Try.prog 41 #[.pointer (some ⟨B, 0, none⟩)] wr fun e w' => ∃ v, e = .returned v ∧ Kc w w' B lb bm ls cs N ∧ w'.ownsRow w.heap.size 5 1 v ls.flatten.length (ls.flatten.map f8) ∧ ls.flatten.length = ls.length * 256 ∧ Dfr w.heap.size wr w' := by
  have hc := h
  obtain ⟨d, ⟨⟨cv, hk⟩, hb⟩, e1, e2, e3, e4, e5, e6, e7⟩ := h
  subst e3
  refine (image_any wr w.heap.size B lb bm cv d hk h1).mono ?_
  rintro e w' ⟨v, he, h2, h3, h4⟩
  exact ⟨v, he, hc.step h4, own_low h2 hb.size, h3, Dfr.ofBelow h4 hb.size⟩
theorem kcpending (h : Kc w wr B lb bm ls [] N) :
    Calls Try.prog 35 #[.pointer (some ⟨B, 0, none⟩)] wr fun e w' => ∃ ao cap, e = .returned (.slice ao 0 cap) ∧ Below w.heap.size w w' := by
  obtain ⟨d, ⟨⟨cv, hk⟩, hb⟩, e1, e2, e3, e4, e5, e6, e7⟩ := h
  refine (pending_any wr w.heap.size B lb bm cv d hk (by rw [e4]; simp)).mono ?_
  rintro e w' ⟨v, he, h2, h3⟩
  obtain ⟨ao, cap, rfl⟩ := own_slice h2
  rw [e4] at he
  exact ⟨ao, cap, he, hb.trans (h3.mono hb.size)⟩

/-- The rows of the sectors that the disk should have, at block g. -/
def Lt (w wr : World) (g : Nat) (LS : List (List UInt8)) : Prop :=
  ∃ vs : List Value, wr.ownsRow w.heap.size 22 1 (.slice (some ⟨g, 0, none⟩) LS.length LS.length) LS.length vs ∧ ∀ (j : Nat) (v : Value) (s : List UInt8), vs[j]? = some v → LS[j]? = some s → wr.ownsRow w.heap.size 5 1 v s.length (s.map f8) ∧ s.length = 256
theorem Lt.dfr {g : Nat} {LS : List (List UInt8)} (h : Lt w wr g LS) (hf : Dfr w.heap.size wr w') : Lt w w' g LS := by
  obtain ⟨vs, h1, h2⟩ := h
  exact ⟨vs, hf.own h1 (by decide) (by decide) (by decide), fun j v s hv hs => ⟨hf.own (h2 j v s hv hs).1 (by decide) (by decide) (by decide), (h2 j v s hv hs).2⟩⟩
theorem Lt.get {g : Nat} {LS : List (List UInt8)} (h : Lt w wr g LS) (j : Nat) (hj : j < LS.length) : ∃ v, wr.cell? ⟨g, j, none⟩ = some v ∧ wr.ownsRow w.heap.size 5 1 v LS[j].length (LS[j].map f8) ∧ LS[j].length = 256 ∧ wr.frozen? ⟨g, j, none⟩ = false := by
  obtain ⟨vs, h1, h2⟩ := h
  have hl : vs.length = LS.length := by simpa using h1.1
  have hv : vs[j]? = some vs[j] := List.getElem?_eq_getElem (by omega)
  obtain ⟨k1, k2⟩ := h2 j _ _ hv (List.getElem?_eq_getElem hj)
  exact ⟨vs[j], (h1.cellAt j (by omega)).trans hv, k1, k2, h1.frozenAt j⟩
theorem Lt.set {g : Nat} {LS : List (List UInt8)} (h : Lt w wr g LS) (j : Nat) {v : Value} {s : List UInt8} (hv : wr.ownsRow w.heap.size 5 1 v s.length (s.map f8)) (hs : s.length = 256) : Lt w (wr.setCell ⟨g, j, none⟩ v) g (LS.set j s) := by
  obtain ⟨vs, h1, h2⟩ := h
  have hst := h1.stored j v
  have keep : ∀ {u : Value} {n : Nat} {xs : List Value}, wr.ownsRow w.heap.size 5 1 u n xs → (wr.setCell ⟨g, j, none⟩ v).ownsRow w.heap.size 5 1 u n xs := fun hu => own_grown hst.2 hu (fun k hk => by
    injection hk with hk
    subst hk
    obtain ⟨cs, hc⟩ := own_block h1 g rfl
    exact ⟨cs, 22, _, hc, by decide⟩)
  refine ⟨vs.set j v, by rw [List.length_set]; exact hst.1, fun i u t hu ht => ?_⟩
  by_cases he : i = j
  · subst he
    rw [List.getElem?_set_self'] at hu ht
    cases hvi : vs[i]? with
    | none => rw [hvi] at hu; cases hu
    | some x =>
      cases hLi : LS[i]? with
      | none => rw [hLi] at ht; cases ht
      | some y =>
        rw [hvi] at hu
        rw [hLi] at ht
        simp at hu ht
        subst hu ht
        exact ⟨keep hv, hs⟩
  · rw [List.getElem?_set_ne (fun e => he e.symm)] at hu ht
    obtain ⟨k1, k2⟩ := h2 i u t hu ht
    exact ⟨keep k1, k2⟩
/-- The list of sectors is written: the disk is as it was. -/
theorem Kc.set {g : Nat} {LS : List (List UInt8)} (h : Kc w wr B lb bm ls cs N) (hL : Lt w wr g LS) (j : Nat) (v : Value) : Kc w (wr.setCell ⟨g, j, none⟩ v) B lb bm ls cs N := by
  obtain ⟨vs, h1, _⟩ := hL
  have hst := h1.stored j v
  obtain ⟨cs', hc⟩ := own_block h1 g rfl
  obtain ⟨d, ⟨⟨cv, hk⟩, hb⟩, e⟩ := h
  obtain ⟨k1, k2, k3, k4⟩ := hk.lts
  refine ⟨d, ⟨⟨cv, hk.other (hst.2.block B k1 (fun e => ?_)) (hst.2.block lb k2 (fun e => ?_)) (hst.2.block bm k3 (fun e => ?_)) (fun k hkk => hst.2.block k (k4 k hkk) (fun e => ?_))⟩, hb.grown hst.2 hb.size (fun k hkk => ?_)⟩, e⟩
  · injection e with e; exact block_ne hk.top hc (by decide) e
  · injection e with e; exact block_ne hk.las hc (by decide) e
  · injection e with e; obtain ⟨D, hm, _⟩ := hk.seen; exact map_not hm hc e
  · injection e with e; exact own_not hk.cache hc (by decide) (by rw [hkk, e])
  · injection hkk with hkk; have := (h1.lt g rfl).1; omega
end
end Go.Proofs.Ytnplcfgjidolbaa
