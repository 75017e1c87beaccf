/- From the row's reading of a slice of slices of bytes to lists of bytes. -/
import Derived.Test.YtckmeomhcikmoaaRow
import Derived.Deep.Matrix
import Derived.SizedLaws
namespace Go.Proofs.Ytckmeomhcikmoaa
open Go.RowKit

/-- A value's own cell. -/
def fv (v : Value) : Value := v

/-- The slice v has rows of bytes. -/
def Rws (lo hi : Nat) (w : World) (v : Value) (rows : List (List UInt8)) : Prop :=
  ∃ vs : List Value, vs.length = rows.length ∧ Sl lo hi fv w v vs ∧ ∀ r (h : r < rows.length) (h' : r < vs.length), Sl lo hi f8 w vs[r] rows[r]

theorem Rws.same {lo hi : Nat} {w w' : World} {v : Value} {rows : List (List UInt8)} (h : Rws lo hi w v rows) (hs : Same lo hi w w') : Rws lo hi w' v rows := by
  obtain ⟨vs, h1, h2, h3⟩ := h
  exact ⟨vs, h1, h2.same hs, fun r a b => (h3 r a b).same hs⟩
theorem Rws.below {lo hi B : Nat} {w w' : World} {v : Value} {rows : List (List UInt8)} (h : Rws lo hi w v rows) (hb : Below B w w') (hh : hi ≤ B) : Rws lo hi w' v rows :=
  h.same (Same.ofBelow hb _ _ hh)

/-- One row of what came in. -/
def RowIn (w : World) (A : Option Addr) (L C : Nat) (Z : List Int) : Prop :=
  L ≤ C ∧ C ≤ maxLen ∧ Z.length = C ∧ (∀ n ∈ Z, (Lit.int .u8 n).wf = true) ∧ (A = none → C = 0) ∧ ∀ a', A = some a' → ∀ c, c < C → w.cell? (a'.add c) = some (.int .u8 (Z.getD c 0))

theorem RowIn.row {w : World} {A : Option Addr} {L C : Nat} {Z : List Int} (h : RowIn w A L C Z) : IsRow .u8 w A L C Z := by
  obtain ⟨h1, h2, h3, h4, h5, h6⟩ := h
  cases A with
  | none =>
    have hc := h5 rfl
    subst hc
    exact .inl ⟨rfl, by omega, rfl, List.eq_nil_of_length_eq_zero h3⟩
  | some a => exact .inr ⟨a, rfl, h1, h2, h3, fun i hi => h6 a rfl i (by omega), h4⟩

/-- What the walk is told of a slice of slices of bytes that came in; each no longer than the reach. -/
theorem rows_in {w : World} {a : Addr} {len cap : Nat} {A : Nat → Option Addr} {L C : Nat → Nat} {Z : Nat → List Int} (hl : len ≤ cap) (hlen : len ≤ 140737488351232)
    (hc : ∀ r, r < cap → w.cell? (a.add r) = some (.slice (A r) (L r) (C r)) ∧ RowIn w (A r) (L r) (C r) (Z r)) (hL : ∀ r, r < len → L r ≤ 140737488351232) :
    ∃ rows, Rws 0 w.heap.size w (.slice (some a) len cap) rows := by
  have each : ∀ r, ∃ l : List UInt8, r < len → l.length = L r ∧ SlC 0 w.heap.size f8 w (A r) (C r) l := by
    intro r
    by_cases hr : r < len
    · obtain ⟨l, h1, h2⟩ := (hc r (by omega)).2.row.sl (by have := hL r hr; omega)
      exact ⟨l, fun _ => ⟨h1, h2⟩⟩
    · exact ⟨[], fun h => absurd h hr⟩
  obtain ⟨R, hR⟩ : ∃ R : Nat → List UInt8, ∀ r, r < len → (R r).length = L r ∧ SlC 0 w.heap.size f8 w (A r) (C r) (R r) := ⟨fun r => (each r).choose, fun r => (each r).choose_spec⟩
  refine ⟨(List.range len).map R, (List.range len).map (fun r => .slice (A r) (L r) (C r)), by simp, ⟨some a, cap, by simp, by simp; omega, (fun h => by cases h), fun hne => ?_, by simp; omega⟩, fun r h h' => ?_⟩
  · have h0 : 0 < len := by
      rcases Nat.eq_zero_or_pos len with h | h
      · subst h; simp at hne
      · exact h
    have hz := (hc 0 (by omega)).1
    obtain ⟨b, off, spot⟩ := a
    have hspot : spot = none := by simpa [Addr.add] using World.cell?_spot hz
    subst hspot
    refine ⟨b, off, rfl, Nat.zero_le _, block_lt_of_cell hz, fun j hj => ?_⟩
    have hj' : j < len := by simpa using hj
    have := (hc j (by omega)).1
    rw [Addr.add_lit] at this
    rw [this]
    simp [fv]
  · have hr : r < len := by simpa using h
    have := hR r hr
    refine ⟨A r, C r, ?_, ?_⟩
    · simp [this.1]
    · simpa using this.2

theorem weightsAll_mem {H : Type} {P : Program} {e : TypeId} : ∀ {l : List (DataW H)} {d : DataW H}, d ∈ l → ∀ n ∈ d.weights P e, n ∈ DataW.weightsAll P e l
  | d' :: r, d, hd, n, hn => by
    simp only [DataW.weightsAll, List.mem_append]
    rcases List.mem_cons.1 hd with rfl | h
    · exact Or.inl hn
    · exact Or.inr (weightsAll_mem h n hn)
/-- The reach of a row inside a slice of slices. -/
theorem sized_inner {H : Type} {P : Program} {ts : List TypeId} {ds : List (DataW H)} (h : (DataW.weightsEach P ts ds).all (· ≤ reachBytes) = true) {j : Nat} {t e q : TypeId} {elems spare e' sp' : List (DataW H)}
    (ht : ts[j]? = some t) (hd : ds[j]? = some (.slice elems spare)) (hu : P.underlying t = some (.slice e)) (hu2 : P.underlying e = some (.slice q)) (hx : DataW.slice e' sp' ∈ elems) : (e'.length + sp'.length) * P.bytesOf q ≤ reachBytes := by
  refine of_decide_eq_true (List.all_eq_true.1 h _ (DataW.weights_mem_each ht hd _ ?_))
  simp only [DataW.weights, hu, List.mem_cons, List.mem_append]
  exact Or.inr (Or.inl (weightsAll_mem hx _ (by simp [DataW.weights, hu2])))
end Go.Proofs.Ytckmeomhcikmoaa
