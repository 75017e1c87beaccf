/- The list that rising makes of a list: the plain law. -/
import Derived.Test.YtepjpdhmjchakaaDoorGzCut
namespace Go.Proofs.YtepjpdhmjchakaaDoor
open Go.RowKit Bt
namespace Gz

/-- rising's turn: the last time, the list so far. -/
def riseStep (st : Int × List Smp) (s : Smp) : Int × List Smp :=
  (st.1 + ((if s.t < 0 then -(s.t + 1) else s.t) % 4398046511104 + 1), st.2 ++ [⟨st.1 + ((if s.t < 0 then -(s.t + 1) else s.t) % 4398046511104 + 1), s.v⟩])
def riseFrom (l : List Smp) : Int × List Smp := l.foldl riseStep (-far, [])
/-- What rising gives. -/
def rise (l : List Smp) : List Smp := (riseFrom (l.take 2000)).2
theorem riseFrom_snoc (l : List Smp) (s : Smp) : riseFrom (l ++ [s]) = riseStep (riseFrom l) s := by simp [riseFrom]

structure RAt (k : Nat) (st : Int × List Smp) : Prop where
  len : st.2.length = k
  lo : -far ≤ st.1
  hi : st.1 ≤ -far + k * 4398046511104
  good : Good st.2
  last : ∀ s, st.2.getLast? = some s → s.t = st.1
theorem RAt.nil : RAt 0 (-far, []) := ⟨rfl, by decide, by decide, ⟨fun s hs => (by cases hs), fun i a b h => (by simp at h)⟩, fun s h => (by simp at h)⟩
theorem RAt.snoc {k : Nat} {st : Int × List Smp} {s : Smp} (h : RAt k st) (hk : k < 2000) (hv : s.v < 18446744073709551616) : RAt (k + 1) (riseStep st s) := by
  obtain ⟨t, m⟩ := st
  have h1 := h.len
  have h2 := h.lo
  have h3 := h.hi
  have h4 := h.last
  simp only at h1 h2 h3 h4
  unfold riseStep
  generalize hg : (if s.t < 0 then -(s.t + 1) else s.t) % 4398046511104 = g
  have hg0 : 0 ≤ g ∧ g < 4398046511104 := by omega
  have e : far = 9007199254740992 := rfl
  refine ⟨by simp [h1], by simp only; omega, by simp only; push_cast; omega, ⟨fun x hx => ?_, fun i a b ha hb => ?_⟩, fun x hx => ?_⟩
  · rcases List.mem_append.1 hx with hx | hx
    · exact h.good.far x hx
    · simp at hx; subst hx; simp only; refine ⟨?_, ?_, hv⟩ <;> omega
  · simp only at ha hb
    by_cases hi : i + 1 < m.length
    · rw [List.getElem?_append_left (by omega)] at ha
      rw [List.getElem?_append_left hi] at hb
      exact h.good.rise i a b ha hb
    · have hb1 := (List.getElem?_eq_some_iff.1 hb).1
      simp at hb1
      have hi' : i + 1 = m.length := by omega
      rw [List.getElem?_append_left (by omega)] at ha
      rw [List.getElem?_append_right (by omega), show i + 1 - m.length = 0 by omega] at hb
      simp at hb
      subst hb
      have := h4 a (by rw [List.getLast?_eq_getElem?, show m.length - 1 = i by omega]; exact ha)
      simp only
      omega
  · simp at hx
    subst hx
    rfl
theorem rise_at : ∀ (n : Nat) (l : List Smp), l.length = n → n ≤ 2000 → (∀ s ∈ l, s.v < 18446744073709551616) → RAt n (riseFrom l)
  | 0, l, hl, _, _ => by
    obtain rfl := List.eq_nil_of_length_eq_zero hl
    exact RAt.nil
  | n + 1, l, hl, hn, hv => by
    obtain ⟨l, s, rfl⟩ := snoc_ex l (by intro e; subst e; simp at hl)
    rw [riseFrom_snoc]
    exact (rise_at n l (by simpa using hl) (by omega) (fun x hx => hv x (by simp [hx]))).snoc (by omega) (hv s (by simp))
theorem rise_good {l : List Smp} (hv : ∀ s ∈ l, s.v < 18446744073709551616) : Good (rise l) ∧ (rise l).length ≤ 2000 := by
  have h := rise_at (l.take 2000).length (l.take 2000) rfl (by simp; omega) (fun s hs => hv s (List.mem_of_mem_take hs))
  exact ⟨h.good, by unfold rise; rw [h.len]; simp; omega⟩
end Gz
end Go.Proofs.YtepjpdhmjchakaaDoor
