/- What a reader has found: bounds of the numbers, and none stays none. -/
import Derived.Test.YtepjpdhmjchakaaDoorRr2
namespace Go.Proofs.YtepjpdhmjchakaaDoor
open Go.RowKit Bt
namespace Gz

theorem un_fits {x : Nat} (h : x < 18446744073709551616) : -9223372036854775808 ≤ un x ∧ un x ≤ 9223372036854775807 := by
  unfold un
  split <;> omega
theorem chgD_lt {U : List Bool} {a d b : Nat} (h : chgD U a = some (d, b)) : d < 18446744073709551616 := by
  unfold chgD at h
  simp only [Option.bind_eq_some_iff] at h
  obtain ⟨p0, _, h⟩ := h
  split at h
  · simp only [Option.some.injEq, Prod.mk.injEq] at h; omega
  simp only [Option.bind_eq_some_iff] at h
  obtain ⟨p1, _, h⟩ := h
  split at h
  · simp only [Option.map_eq_some_iff, Prod.mk.injEq] at h
    obtain ⟨q, _, h, _⟩ := h
    rw [← h]; exact Nat.mod_lt _ (by decide)
  simp only [Option.bind_eq_some_iff] at h
  obtain ⟨p2, _, h⟩ := h
  split at h
  · simp only [Option.map_eq_some_iff, Prod.mk.injEq] at h
    obtain ⟨q, _, h, _⟩ := h
    rw [← h]; exact Nat.mod_lt _ (by decide)
  simp only [Option.bind_eq_some_iff] at h
  obtain ⟨p3, _, h⟩ := h
  split at h
  · simp only [Option.map_eq_some_iff, Prod.mk.injEq] at h
    obtain ⟨q, _, h, _⟩ := h
    rw [← h]; exact Nat.mod_lt _ (by decide)
  · exact rdk_lt (by decide) h
theorem numD_fits {U : List Bool} {win : Nat × Nat} {a d b : Nat} {win' : Nat × Nat} (hw : win.1 + win.2 ≤ 63) (h : numD U win a = some (d, win', b)) : d < 18446744073709551616 ∧ win'.1 + win'.2 ≤ 63 := by
  unfold numD at h
  simp only [Option.bind_eq_some_iff] at h
  obtain ⟨p0, _, h⟩ := h
  split at h
  · simp only [Option.some.injEq, Prod.mk.injEq] at h
    obtain ⟨h1, h2, _⟩ := h
    subst h1 h2
    exact ⟨by decide, hw⟩
  simp only [Option.bind_eq_some_iff] at h
  obtain ⟨p1, _, h⟩ := h
  split at h
  · simp only [Option.map_eq_some_iff, Prod.mk.injEq] at h
    obtain ⟨q, _, h1, h2, _⟩ := h
    subst h2
    exact ⟨by rw [← h1]; exact Nat.mod_lt _ (by decide), hw⟩
  simp only [Option.bind_eq_some_iff] at h
  obtain ⟨p2, _, p3, _, h⟩ := h
  split at h
  · cases h
  · next hn =>
    simp only [Option.map_eq_some_iff, Prod.mk.injEq] at h
    obtain ⟨q, _, h1, h2, _⟩ := h
    subst h2
    exact ⟨by rw [← h1]; exact Nat.mod_lt _ (by decide), by simp only; omega⟩

/-- What holds of a reader's numbers behind k + 1 samples. -/
structure Dk (k : Nat) (d : Ds) (l : List Smp) : Prop where
  len : l.length = k + 1
  last : l.getLast? = some ⟨d.t, d.v⟩
  t : -9223372036854775808 ≤ d.t ∧ d.t ≤ 9223372036854775807
  v : d.v < 18446744073709551616
  step : d.step < 18446744073709551616
  win : d.win.1 + d.win.2 ≤ 63
  all : ∀ s ∈ l, (-9223372036854775808 ≤ s.t ∧ s.t ≤ 9223372036854775807) ∧ s.v < 18446744073709551616
theorem dec_dk (U : List Bool) : ∀ (k : Nat) (d : Ds) (l : List Smp), decN U k = some (d, l) → Dk k d l
  | 0, d, l, h => by
    unfold decN first at h
    split at h
    · cases h
    · next x a hx =>
      simp only [Option.map_eq_some_iff, Prod.mk.injEq] at h
      obtain ⟨q, hq, h1, h2⟩ := h
      subst h1 h2
      have hu := un_fits (rv_ok hx).1
      have hl := rdk_lt (by decide) hq
      refine ⟨rfl, rfl, hu, hl, by simp, by simp, fun s hs => ?_⟩
      simp at hs
      subst hs
      exact ⟨hu, hl⟩
  | k + 1, d, l, h => by
    unfold decN at h
    simp only [Option.bind_eq_some_iff, Option.map_eq_some_iff, Prod.mk.injEq] at h
    obtain ⟨⟨d0, l0⟩, h0, s, hs, h1, h2⟩ := h
    have ih := dec_dk U k d0 l0 h0
    subst h1 h2
    unfold next at hs
    simp only [Option.bind_eq_some_iff, Option.map_eq_some_iff] at hs
    obtain ⟨⟨st, a1⟩, hst, ⟨x, w', a2⟩, hx, rfl⟩ := hs
    have hstl : st < 18446744073709551616 := by
      unfold stepD at hst
      split at hst
      · split at hst
        · cases hst
        · next p hp =>
          injection hst with hst
          subst hst
          exact (rv_ok hp).1
      · simp only [Option.map_eq_some_iff, Prod.mk.injEq] at hst
        obtain ⟨q, _, h1, _⟩ := hst
        rw [← h1]; exact Nat.mod_lt _ (by decide)
    obtain ⟨hxl, hwl⟩ := numD_fits ih.win hx
    have ht : -9223372036854775808 ≤ wrap64 (d0.t + (st : Int)) ∧ wrap64 (d0.t + (st : Int)) ≤ 9223372036854775807 := by unfold wrap64; omega
    have hv := xor_lt ih.v hxl
    refine ⟨by simp [ih.len], by simp, ht, hv, hstl, hwl, fun s hs => ?_⟩
    rcases List.mem_append.1 hs with hs | hs
    · exact ih.all s hs
    · simp at hs
      subst hs
      exact ⟨ht, hv⟩
/-- None stays none. -/
theorem dec_none {U : List Bool} {k n : Nat} (h : decN U k = none) (hk : k ≤ n) : decN U n = none := by
  induction n with
  | zero =>
    obtain rfl : k = 0 := by omega
    exact h
  | succ n ih =>
    by_cases e : k = n + 1
    · subst e; exact h
    · unfold decN
      rw [ih (by omega)]
      rfl
end Gz
end Go.Proofs.YtepjpdhmjchakaaDoor
