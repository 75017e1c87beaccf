/- Slices that are read: which cells hold their elements; how that is carried from world to world. No condition. -/
import Derived.Test.YtepjpdhmjchakaaDoorBv
import Derived.Laws.Rows
import Derived.Laws.Tables
import Derived.Laws.CopyRow
import Derived.Lib.Hide
namespace Go.Proofs.YtepjpdhmjchakaaDoor
open Go.RowKit

/-- From block lo on, below block hi, the two worlds hold the same. -/
def Same (lo hi : Nat) (w w' : World) : Prop := ∀ k, lo ≤ k → k < hi → w'.heap[k]? = w.heap[k]?

theorem Same.refl (lo hi : Nat) (w : World) : Same lo hi w w := fun _ _ _ => rfl
theorem Same.trans {lo hi : Nat} {a b c : World} (h : Same lo hi a b) (k : Same lo hi b c) : Same lo hi a c := fun i h1 h2 => (k i h1 h2).trans (h i h1 h2)
theorem Same.mono {lo hi lo' hi' : Nat} {w w' : World} (h : Same lo hi w w') (h1 : lo ≤ lo') (h2 : hi' ≤ hi) : Same lo' hi' w w' := fun k a b => h k (by omega) (by omega)
theorem Same.ofBelow {B : Nat} {w w' : World} (h : Below B w w') (lo hi : Nat) (hh : hi ≤ B) : Same lo hi w w' := fun k _ b => h.block k (by omega)

/-- What a slice of the elements l leads to: each is the one cell that f makes of it; its block lies from lo on, below hi. -/
structure SlC {α : Type} (lo hi : Nat) (f : α → Value) (w : World) (ao : Option Addr) (cap : Nat) (l : List α) : Prop where
  len : l.length ≤ 140737488355328
  nn : ao = none → cap = 0
  cells : l ≠ [] → ∃ b off, ao = some ⟨b, off, none⟩ ∧ lo ≤ b ∧ b < hi ∧ ∀ j (h : j < l.length), w.cell? ⟨b, off + j, none⟩ = some (f l[j])
  le : l.length ≤ cap

/-- The slice v has the elements l. -/
def Sl {α : Type} (lo hi : Nat) (f : α → Value) (w : World) (v : Value) (l : List α) : Prop :=
  ∃ ao cap, v = .slice ao l.length cap ∧ SlC lo hi f w ao cap l

/-- A byte's cell. -/
def f8 (x : UInt8) : Value := .int .u8 (W8 x)

section
variable {α : Type} {lo hi lo' hi' B : Nat} {f : α → Value} {w w' : World} {v : Value} {l : List α} {ao : Option Addr} {cap : Nat}
theorem SlC.same (h : SlC lo hi f w ao cap l) (hs : Same lo hi w w') : SlC lo hi f w' ao cap l := by
  obtain ⟨hl, hn, hc, hle⟩ := h
  refine ⟨hl, hn, fun hne => ?_, hle⟩
  obtain ⟨b, off, ha, h1, h2, hcell⟩ := hc hne
  exact ⟨b, off, ha, h1, h2, fun j hj => (World.cell?_of_block (w := w) (hs b h1 h2)).trans (hcell j hj)⟩
theorem SlC.mono (h : SlC lo hi f w ao cap l) (h1 : lo' ≤ lo) (h2 : hi ≤ hi') : SlC lo' hi' f w ao cap l := by
  obtain ⟨hl, hn, hc, hle⟩ := h
  refine ⟨hl, hn, fun hne => ?_, hle⟩
  obtain ⟨b, off, ha, h3, h4, hcell⟩ := hc hne
  exact ⟨b, off, ha, by omega, by omega, hcell⟩
theorem SlC.below (h : SlC lo hi f w ao cap l) (hb : Below B w w') (hh : hi ≤ B) : SlC lo hi f w' ao cap l :=
  h.same (Same.ofBelow hb _ _ hh)
theorem SlC.none (h : SlC lo hi f w ao cap l) (hn : ao = none) : l.length = 0 ∧ cap = 0 := by
  refine ⟨?_, h.nn hn⟩
  cases l with
  | nil => rfl
  | cons a l => obtain ⟨b, off, ha, _⟩ := h.cells (by simp); rw [hn] at ha; cases ha
/-- The cells, as the laws on append ask for them. -/
theorem SlC.news (h : SlC lo hi f w ao cap l) : ∀ ad, ao = some ad → ∀ j u, (l.map f)[j]? = some u → w.cell? (ad.add j) = some u := by
  intro ad had j u hu
  have hj : j < l.length := by
    have := (List.getElem?_eq_some_iff.1 hu).1
    simpa using this
  obtain ⟨b, off, ha, _, _, hcell⟩ := h.cells (by intro e; subst e; simp at hj)
  rw [had] at ha
  injection ha with ha
  subst ha
  rw [Addr.add_lit, hcell j hj]
  rw [← hu, List.getElem?_map, List.getElem?_eq_getElem hj]; rfl
theorem Sl.same (h : Sl lo hi f w v l) (hs : Same lo hi w w') : Sl lo hi f w' v l := by
  obtain ⟨ao, cap, hv, h⟩ := h; exact ⟨ao, cap, hv, h.same hs⟩
theorem Sl.mono (h : Sl lo hi f w v l) (h1 : lo' ≤ lo) (h2 : hi ≤ hi') : Sl lo' hi' f w v l := by
  obtain ⟨ao, cap, hv, h⟩ := h; exact ⟨ao, cap, hv, h.mono h1 h2⟩
theorem Sl.below (h : Sl lo hi f w v l) (hb : Below B w w') (hh : hi ≤ B) : Sl lo hi f w' v l :=
  h.same (Same.ofBelow hb _ _ hh)
theorem Sl.len (h : Sl lo hi f w v l) : l.length ≤ 140737488355328 := by
  obtain ⟨_, _, _, h⟩ := h; exact h.len
end
/-- The cells of a block that has just been laid. -/
theorem news_alloc (w : World) (cs : List Value) (t : TypeId) : ∀ j u, cs[j]? = some u → (w.alloc (.cells cs.toArray t)).cell? ((⟨w.heap.size, 0, none⟩ : Addr).add j) = some u := by
  intro j u hu
  rw [Addr.add_lit, cell_of_row _ _ _ _ _ _ (heap_alloc_new w _), Nat.zero_add]
  simpa using hu
theorem f8_one (l : List UInt8) : ∀ u ∈ l.map f8, u.oneCell' = true := by
  intro u hu
  obtain ⟨_, _, rfl⟩ := List.mem_map.1 hu
  rfl
theorem Sl.nil {α : Type} (lo hi : Nat) (f : α → Value) (w : World) : Sl lo hi f w (.slice none 0 0) ([] : List α) := ⟨none, 0, rfl, by simp, fun _ => rfl, fun h => absurd rfl h, by simp⟩

/-- A row of the call's own that is full: its block's very cells. -/
theorem own_full {w : World} {base : Nat} {e : TypeId} {g n : Nat} {xs : List Value} (h : w.ownsRow base e 1 (.slice (some ⟨g, 0, none⟩) n n) n xs) :
    base ≤ g ∧ w.heap[g]? = some (.cells xs.toArray e (0, 0)) := by
  obtain ⟨hl, h | ⟨g', cap, cur, hv, hb, hh, h1, h2, h3, h4⟩⟩ := h
  · simp at h
  · simp only [Value.slice.injEq, Option.some.injEq, Addr.mk.injEq] at hv
    obtain ⟨⟨rfl, -⟩, -, rfl⟩ := hv
    refine ⟨hb, ?_⟩
    rw [hh, ← h4, Nat.mul_one, List.take_of_length_le (by simp [h3])]
/-- Of a row that the call owns its slice has the elements. -/
theorem Sl.owns {α : Type} {w : World} {base : Nat} {e : TypeId} {f : α → Value} {v : Value} {l : List α} (h : w.ownsRow base e 1 v l.length (l.map f)) (hl : l.length ≤ 140737488355328) :
    Sl base w.heap.size f w v l := by
  obtain ⟨_, ⟨rfl, hn⟩ | ⟨g, cap, cur, rfl, hb, hh, h1, h2, h3, h4⟩⟩ := h
  · exact ⟨none, 0, by rw [hn], hl, fun _ => rfl, fun hne => absurd (List.eq_nil_of_length_eq_zero hn) hne, by omega⟩
  · refine ⟨_, cap, rfl, hl, (fun h => by cases h), fun _ => ⟨g, 0, rfl, hb, ?_, fun j hj => ?_⟩, h1⟩
    · rcases Nat.lt_or_ge g w.heap.size with h | h
      · exact h
      · rw [Array.getElem?_eq_none h] at hh; cases hh
    · rw [cell_of_row _ _ _ _ _ _ hh, Nat.zero_add, ← Array.getElem?_toList]
      have h5 := congrArg (fun (t : List Value) => t[j]?) h4
      simp only [List.getElem?_take, Nat.mul_one, hj, if_true, List.getElem?_map, List.getElem?_eq_getElem hj, Option.map_some] at h5
      exact h5
end Go.Proofs.YtepjpdhmjchakaaDoor
