/- A list of samples, cut in pieces of 120: the plain law. -/
import Derived.Test.YtepjpdhmjchakaaDoorGz8
namespace Go.Proofs.YtepjpdhmjchakaaDoor
open Go.RowKit Bt
namespace Gz

/-- Samples in bounds, rising. -/
structure Good (l : List Smp) : Prop where
  far : ∀ s ∈ l, -far ≤ s.t ∧ s.t ≤ far ∧ s.v < 18446744073709551616
  rise : ∀ (i : Nat) (a b : Smp), l[i]? = some a → l[i + 1]? = some b → a.t < b.t
theorem Good.pre {l m : List Smp} (h : Good (l ++ m)) : Good l := by
  refine ⟨fun x hx => h.far x (by simp [hx]), fun i a b ha hb => ?_⟩
  have h1 := (List.getElem?_eq_some_iff.1 ha).1
  have h2 := (List.getElem?_eq_some_iff.1 hb).1
  exact h.rise i a b (by rw [List.getElem?_append_left h1]; exact ha) (by rw [List.getElem?_append_left h2]; exact hb)
theorem Good.suf {l m : List Smp} (h : Good (l ++ m)) : Good m := by
  refine ⟨fun x hx => h.far x (by simp [hx]), fun i a b ha hb => ?_⟩
  exact h.rise (l.length + i) a b (by rw [List.getElem?_append_right (by omega)]; simpa using ha) (by rw [List.getElem?_append_right (by omega), show l.length + i + 1 - l.length = i + 1 by omega]; exact hb)
theorem Good.fine {l : List Smp} (h : Good l) (hn : l.length ≤ 120) : Fine l := ⟨h.far, h.rise, hn⟩

/-- What an appender gives as its chunk. -/
def ckOf (a : Ap) : Ck := ⟨a.first, a.t, a.n, pack a.L⟩
/-- The second loop's turn. -/
def cutStep (st : List Ck × Ap) (s : Smp) : List Ck × Ap := if st.2.n = 120 then (st.1 ++ [ckOf st.2], Ap.new.add s) else (st.1, st.2.add s)
def cutFrom (l : List Smp) : List Ck × Ap := l.foldl cutStep ([], Ap.new)
/-- All chunks of a list. -/
def cut (l : List Smp) : List Ck := if 0 < (cutFrom l).2.n then (cutFrom l).1 ++ [ckOf (cutFrom l).2] else (cutFrom l).1
theorem cutFrom_snoc (l : List Smp) (s : Smp) : cutFrom (l ++ [s]) = cutStep (cutFrom l) s := by simp [cutFrom]

/-- Behind l: the pieces and what is left. -/
def At (l : List Smp) (st : List Ck × Ap) : Prop := ∃ (P : List (List Smp)) (c : List Smp), l = P.flatten ++ c ∧ (∀ p ∈ P, Fine p ∧ p.length = 120) ∧ Fine c ∧ (c = [] → P = []) ∧ st = (P.map (fun p => ckOf (Ap.all p)), Ap.all c)
theorem At.nil : At [] ([], Ap.new) := ⟨[], [], rfl, fun p hp => (by cases hp), ⟨fun s hs => (by cases hs), fun i a b h => (by simp at h), by simp⟩, fun _ => rfl, rfl⟩
theorem At.snoc {l : List Smp} {s : Smp} {st : List Ck × Ap} (h : At l st) (hg : Good (l ++ [s])) : At (l ++ [s]) (cutStep st s) := by
  obtain ⟨P, c, rfl, hP, hc, hn, rfl⟩ := h
  unfold cutStep
  simp only
  rw [all_n hc]
  by_cases h1 : c.length = 120
  · rw [if_pos h1]
    refine ⟨P ++ [c], [s], by simp, fun p hp => ?_, (hg.suf).fine (by simp), by simp, by simp [Ap.all]⟩
    rcases List.mem_append.1 hp with hp | hp
    · exact hP p hp
    · simp at hp; subst hp; exact ⟨hc, h1⟩
  · rw [if_neg h1]
    refine ⟨P, c ++ [s], by simp, hP, ?_, by simp, by rw [Ap.all_snoc]⟩
    rw [List.append_assoc] at hg
    exact hg.suf.fine (by have := hc.len; simp; omega)
theorem at_all : ∀ (n : Nat) (l : List Smp), l.length = n → Good l → At l (cutFrom l)
  | 0, l, hl, _ => by
    obtain rfl := List.eq_nil_of_length_eq_zero hl
    exact At.nil
  | n + 1, l, hl, hg => by
    obtain ⟨l, s, rfl⟩ := snoc_ex l (by intro e; subst e; simp at hl)
    rw [cutFrom_snoc]
    exact (at_all n l (by simpa using hl) hg.pre).snoc hg
/-- The appender that the next sample comes to takes it. -/
theorem At.app {l : List Smp} {s : Smp} {st : List Ck × Ap} (h : At l st) (hg : Good (l ++ [s])) : (if st.2.n = 120 then Ap.new else st.2).app s = ((if st.2.n = 120 then Ap.new else st.2).add s, 0) ∧ st.2.ok ∧ (if st.2.n = 120 then Ap.new else st.2).ok := by
  obtain ⟨P, c, rfl, hP, hc, hn, rfl⟩ := h
  have hs := hg.far s (by simp)
  simp only
  refine ⟨?_, all_ok hc, by split; exact Ap.new_ok; exact all_ok hc⟩
  unfold Ap.app
  rw [if_neg (by omega)]
  by_cases h1 : (Ap.all c).n = 120
  · rw [if_pos h1, if_neg (by simp [Ap.new]), if_neg (by simp [Ap.new])]
  · rw [if_neg h1, if_neg ?_, if_neg h1]
    rintro ⟨h2, h3⟩
    rw [all_n hc] at h2
    obtain ⟨d, b, rfl⟩ := snoc_ex c (by intro e; subst e; simp at h2)
    rw [((all_has _ _ rfl hc).2.2 b (by simp)).1] at h3
    have := hg.rise (P.flatten.length + d.length) b s (by simp) (by rw [List.getElem?_append_right (by simp; omega), show P.flatten.length + d.length + 1 - (P.flatten ++ (d ++ [b])).length = 0 by simp; omega]; rfl)
    omega
/-- The pieces of a list. -/
theorem cut_pieces {l : List Smp} (hg : Good l) : ∃ P : List (List Smp), P.flatten = l ∧ (∀ p ∈ P, Fine p) ∧ cut l = P.map (fun p => ckOf (Ap.all p)) := by
  obtain ⟨P, c, rfl, hP, hc, hn, e⟩ := at_all _ l rfl hg
  unfold cut
  rw [e]
  simp only
  rw [all_n hc]
  by_cases h : 0 < c.length
  · rw [if_pos h]
    refine ⟨P ++ [c], by simp, fun p hp => ?_, by simp⟩
    rcases List.mem_append.1 hp with hp | hp
    · exact (hP p hp).1
    · simp at hp; subst hp; exact hc
  · rw [if_neg h]
    obtain rfl := List.eq_nil_of_length_eq_zero (by omega : c.length = 0)
    exact ⟨P, by simp, fun p hp => (hP p hp).1, rfl⟩
/-- Unlike lists have unlike chunks. -/
theorem cut_inj {l m : List Smp} (hl : Good l) (hm : Good m) (h : cut l = cut m) : l = m := by
  obtain ⟨P, rfl, hP, e1⟩ := cut_pieces hl
  obtain ⟨Q, rfl, hQ, e2⟩ := cut_pieces hm
  rw [e1, e2] at h
  clear e1 e2 hl hm
  congr 1
  induction P generalizing Q with
  | nil => cases Q with
    | nil => rfl
    | cons q Q => simp at h
  | cons p P ih => cases Q with
    | nil => simp at h
    | cons q Q =>
      simp only [List.map_cons, List.cons.injEq] at h
      have hp := hP p (by simp)
      have hq := hQ q (by simp)
      have e := h.1
      simp only [ckOf, Ck.mk.injEq] at e
      rw [all_n hp, all_n hq] at e
      rw [all_inj hp hq e.2.2.1 e.2.2.2, ih (fun p h => hP p (by simp [h])) Q h.2 (fun q h => hQ q (by simp [h]))]
end Gz
end Go.Proofs.YtepjpdhmjchakaaDoor
