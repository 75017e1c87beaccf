/- The pieces of a list, once more: none is empty, how many there are; what a chunk's reader finds, as a function. Plain. -/
import Derived.Test.YtepjpdhmjchakaaDoorGzCut
import Derived.Test.YtepjpdhmjchakaaDoorGzOwn
import Derived.Test.YtepjpdhmjchakaaDoorRrPlain
namespace Go.Proofs.YtepjpdhmjchakaaDoor
open Go.RowKit Bt
set_option linter.unusedVariables false

/-- What a chunk's reader finds, if it is one. -/
def RdOk (F T N : Int) (D : List UInt8) (ls : List Gz.Smp) : Prop :=
  1 ≤ N ∧ N ≤ 120 ∧ ∃ d, Gz.decN (Bt.unpack D) (N.toNat - 1) = some (d, ls) ∧ Gz.Fine ls ∧ (Gz.Ap.all ls).first = F ∧ (Gz.Ap.all ls).t = T ∧ Bt.pack (Gz.Ap.all ls).L = D
theorem RdOk.uniq {F T N : Int} {D : List UInt8} {l l' : List Gz.Smp} (h : RdOk F T N D l) (h' : RdOk F T N D l') : l = l' := by
  obtain ⟨_, _, d, h1, _⟩ := h
  obtain ⟨_, _, d', h2, _⟩ := h'
  rw [h1] at h2
  injection h2 with h2
  injection h2
theorem RdOk.len {F T N : Int} {D : List UInt8} {l : List Gz.Smp} (h : RdOk F T N D l) : (l.length : Int) = N := by
  obtain ⟨h1, h2, d, h3, _⟩ := h
  have := (Gz.dec_dk _ _ _ _ h3).len
  omega
theorem RdOk.fine {F T N : Int} {D : List UInt8} {l : List Gz.Smp} (h : RdOk F T N D l) : Gz.Fine l := by
  obtain ⟨_, _, _, _, h, _⟩ := h
  exact h
theorem RdOk.fits {F T N : Int} {D : List UInt8} {l : List Gz.Smp} (h : RdOk F T N D l) : ∀ s ∈ l, (-9223372036854775808 ≤ s.t ∧ s.t ≤ 9223372036854775807) ∧ s.v < 18446744073709551616 := fun s hs => by
  have := h.fine.far s hs
  unfold Gz.far at this
  omega
open Classical in
/-- The samples of a chunk, if it is one. -/
noncomputable def rdo (c : Cki) : Option (List Gz.Smp) := if h : ∃ ls, RdOk c.f c.t c.n c.d ls then some (Classical.choose h) else none
theorem rdo_some {c : Cki} {ls : List Gz.Smp} : rdo c = some ls ↔ RdOk c.f c.t c.n c.d ls := by
  unfold rdo
  constructor
  · intro h
    split at h
    · next hx =>
      injection h with h
      subst h
      exact Classical.choose_spec hx
    · cases h
  · intro h
    have hx : ∃ ls, RdOk c.f c.t c.n c.d ls := ⟨ls, h⟩
    rw [dif_pos hx, (Classical.choose_spec hx).uniq h]
theorem rdo_none {c : Cki} : rdo c = none ↔ ¬ ∃ ls, RdOk c.f c.t c.n c.d ls := by
  constructor
  · rintro h ⟨ls, hl⟩
    rw [rdo_some.2 hl] at h
    cases h
  · intro h
    unfold rdo
    rw [dif_neg h]

namespace Gz
/-- The pieces of a list: none is empty; how many there are. -/
theorem cut_pieces' {l : List Smp} (hg : Good l) : ∃ P : List (List Smp), P.flatten = l ∧ (∀ p ∈ P, Fine p ∧ p ≠ []) ∧ cut l = P.map (fun p => ckOf (Ap.all p)) ∧ P.length = (l.length + 119) / 120 := by
  obtain ⟨P, c, rfl, hP, hc, hn, e⟩ := at_all _ l rfl hg
  have hlen : ∀ Q : List (List Smp), (∀ p ∈ Q, Fine p ∧ p.length = 120) → Q.flatten.length = 120 * Q.length := by
    intro Q
    induction Q with
    | nil => intro _; rfl
    | cons p Q ih =>
      intro h
      rw [List.flatten_cons, List.length_append, ih (fun q hq => h q (by simp [hq])), (h p (by simp)).2, List.length_cons]
      omega
  have h120 := hlen P hP
  have hcl := hc.len
  unfold cut
  rw [e]
  simp only
  rw [all_n hc]
  by_cases h : 0 < c.length
  · rw [if_pos h]
    refine ⟨P ++ [c], by simp, fun p hp => ?_, by simp, ?_⟩
    · rcases List.mem_append.1 hp with hp | hp
      · exact ⟨(hP p hp).1, fun e => by have := (hP p hp).2; rw [e] at this; simp at this⟩
      · simp at hp; subst hp; exact ⟨hc, fun e => by subst e; simp at h⟩
    · rw [List.length_append, List.length_append, h120, List.length_singleton]
      omega
  · rw [if_neg h]
    obtain rfl := List.eq_nil_of_length_eq_zero (by omega : c.length = 0)
    obtain rfl := hn rfl
    exact ⟨[], by simp, fun p hp => by simp at hp, rfl, by simp⟩
theorem all_first {s : Smp} {l : List Smp} : (Ap.all (s :: l)).first = s.t := by
  have key : ∀ (n : Nat) (l : List Smp), l.length = n → (Ap.all (s :: l)).first = s.t ∧ (Ap.all (s :: l)).n ≠ 0 := by
    intro n
    induction n with
    | zero =>
      intro l hl
      obtain rfl := List.eq_nil_of_length_eq_zero hl
      exact ⟨rfl, by simp [Ap.all, Ap.add, Ap.new]⟩
    | succ n ih =>
      intro l hl
      obtain ⟨l, b, rfl⟩ := snoc_ex l (by intro e; subst e; simp at hl)
      obtain ⟨i1, i2⟩ := ih l (by simpa using hl)
      rw [← List.cons_append, Ap.all_snoc]
      generalize Ap.all (s :: l) = a at *
      unfold Ap.add
      rw [if_neg i2]
      exact ⟨i1, by simp⟩
  exact (key _ l rfl).1
theorem all_last {l : List Smp} (h : Fine l) {s : Smp} (hs : l.getLast? = some s) : (Ap.all l).t = s.t := ((all_has _ l rfl h).2.2 s hs).1
end Gz
/-- A chunk that was made is one. -/
theorem rdo_of {p : List Gz.Smp} (hf : Gz.Fine p) (hne : p ≠ []) : rdo (Gz.ckOf (Gz.Ap.all p)).i = some p := by
  have hl := List.length_pos_iff.2 hne
  have hn := Gz.all_n hf
  have h120 := hf.len
  obtain ⟨d, e1, _⟩ := Gz.dec_has (unpack (pack (Gz.Ap.all p).L)) (p.length - 1) p (by omega) hf (by rw [unpack_pack]; exact Gz.Has.start _ _)
  refine rdo_some.2 ⟨?_, ?_, d, ?_, hf, rfl, rfl, rfl⟩
  · show (1 : Int) ≤ ((Gz.Ap.all p).n : Int)
    omega
  · show ((Gz.Ap.all p).n : Int) ≤ 120
    omega
  · show Gz.decN (unpack (pack (Gz.Ap.all p).L)) (((Gz.Ap.all p).n : Int).toNat - 1) = some (d, p)
    rw [hn, Int.toNat_natCast]
    exact e1

/-- What chunks are as samples, and the error. -/
noncomputable def dcd (l : List Cki) : List Gz.Smp × Int :=
  open Classical in
  if ∃ c ∈ l, rdo c = none then ([], 101) else if ∃ (i : Nat) (a b : Cki), l[i]? = some a ∧ l[i + 1]? = some b ∧ b.f ≤ a.t then ([], 100) else ((l.map fun c => (rdo c).getD []).flatten, 0)
theorem good_next {p q : List Gz.Smp} {a b : Gz.Smp} (h : Gz.Good (p ++ q)) (ha : p.getLast? = some a) (hb : q.head? = some b) : a.t < b.t := by
  have hp : p ≠ [] := by intro e; subst e; simp at ha
  have hl := List.length_pos_iff.2 hp
  have hq : q ≠ [] := by intro e; subst e; simp at hb
  have hl2 := List.length_pos_iff.2 hq
  refine h.rise (p.length - 1) a b ?_ ?_
  · rw [List.getElem?_append_left (by omega), ← List.getLast?_eq_getElem?]
    exact ha
  · rw [List.getElem?_append_right (by omega), show p.length - 1 + 1 - p.length = 0 by omega, ← List.head?_eq_getElem?]
    exact hb
/-- The chunks of a good list are its samples. -/
theorem dcd_cut {l : List Gz.Smp} (hg : Gz.Good l) : dcd ((Gz.cut l).map Ck.i) = (l, 0) := by
  obtain ⟨P, hPl, hP, e, _⟩ := Gz.cut_pieces' hg
  rw [e, List.map_map]
  have hr : ∀ p ∈ P, rdo ((Ck.i ∘ fun p => Gz.ckOf (Gz.Ap.all p)) p) = some p := fun p hp => rdo_of (hP p hp).1 (hP p hp).2
  unfold dcd
  rw [if_neg, if_neg]
  · rw [List.map_map]
    have : P.map ((fun c => (rdo c).getD []) ∘ (Ck.i ∘ fun p => Gz.ckOf (Gz.Ap.all p))) = P.map id := List.map_congr_left fun p hp => by
      show (rdo ((Ck.i ∘ fun p => Gz.ckOf (Gz.Ap.all p)) p)).getD [] = p
      rw [hr p hp]; rfl
    rw [this, List.map_id, hPl]
  · rintro ⟨i, a, b, ha, hb, hle⟩
    rw [List.getElem?_map] at ha hb
    obtain ⟨p, hp, rfl⟩ := Option.map_eq_some_iff.1 ha
    obtain ⟨q, hq, rfl⟩ := Option.map_eq_some_iff.1 hb
    obtain ⟨f1, n1⟩ := hP p (List.mem_of_getElem? hp)
    obtain ⟨f2, n2⟩ := hP q (List.mem_of_getElem? hq)
    obtain ⟨p', x, rfl⟩ := Gz.snoc_ex p n1
    obtain ⟨y, q', rfl⟩ := List.exists_cons_of_ne_nil n2
    have h1 : (Gz.Ap.all (p' ++ [x])).t = x.t := Gz.all_last f1 (by simp)
    have h2 : (Gz.Ap.all (y :: q')).first = y.t := Gz.all_first
    have hx : (Gz.Ap.all (y :: q')).first ≤ (Gz.Ap.all (p' ++ [x])).t := hle
    rw [h1, h2] at hx
    have hi := (List.getElem?_eq_some_iff.1 hq).1
    have hsplit : P = P.take i ++ ((p' ++ [x]) :: (y :: q') :: P.drop (i + 2)) := by
      have e1 : P.drop i = (p' ++ [x]) :: P.drop (i + 1) := by rw [List.drop_eq_getElem_cons (by omega), (List.getElem?_eq_some_iff.1 hp).2]
      have e2 : P.drop (i + 1) = (y :: q') :: P.drop (i + 2) := by rw [List.drop_eq_getElem_cons hi, (List.getElem?_eq_some_iff.1 hq).2]
      rw [← e2, ← e1, List.take_append_drop]
    rw [← hPl, hsplit] at hg
    rw [List.flatten_append] at hg
    have hg2 := hg.suf
    rw [List.flatten_cons, List.flatten_cons, ← List.append_assoc] at hg2
    have := good_next hg2.pre (a := x) (b := y) (by simp) (by simp)
    omega
  · rintro ⟨c, hc, hn⟩
    obtain ⟨p, hp, rfl⟩ := List.mem_map.1 hc
    rw [hr p hp] at hn
    cases hn
end Go.Proofs.YtepjpdhmjchakaaDoor
