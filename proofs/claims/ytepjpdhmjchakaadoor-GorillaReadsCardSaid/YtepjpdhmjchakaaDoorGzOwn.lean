/- Rows of samples and of chunks of the call's own, as slices that are read. -/
import Derived.Test.YtepjpdhmjchakaaDoorGz8
namespace Go.Proofs.YtepjpdhmjchakaaDoor
open Go.RowKit
set_option linter.unusedVariables false

/-- The cells of samples. -/
def smCs (l : List Gz.Smp) : List Value := (l.map fun s => [Value.int .i64 s.t, Value.int .u64 (s.v : Int)]).flatten
theorem smCs_snoc (l : List Gz.Smp) (s : Gz.Smp) : smCs (l ++ [s]) = smCs l ++ [Value.int .i64 s.t, Value.int .u64 (s.v : Int)] := by simp [smCs]
theorem smCs_len (l : List Gz.Smp) : (smCs l).length = l.length * 2 := by
  induction l with
  | nil => rfl
  | cons a l ih => simp only [smCs, List.map_cons, List.flatten_cons, List.length_append, List.length_cons, List.length_nil] at *; omega
theorem smCs_get : ∀ {l : List Gz.Smp} {j : Nat} (h : j < l.length), (smCs l)[j * 2]? = some (.int .i64 l[j].t) ∧ (smCs l)[j * 2 + 1]? = some (.int .u64 (l[j].v : Int))
  | [], _, h => by simp at h
  | a :: l, 0, h => by simp [smCs]
  | a :: l, j + 1, h => by
    have ih := smCs_get (l := l) (j := j) (by simpa using h)
    rw [show smCs (a :: l) = Value.int .i64 a.t :: Value.int .u64 (a.v : Int) :: smCs l by simp [smCs], show (j + 1) * 2 = j * 2 + 1 + 1 by omega]
    simpa using ih
theorem own_lt {w : World} {base : Nat} {e : TypeId} {size : Nat} {g n cap : Nat} {o : Nat} {xs : List Value} (h : w.ownsRow base e size (.slice (some ⟨g, o, none⟩) n cap) n xs) : g < w.heap.size := (h.lt g rfl).2
theorem Sms.mono {hi hi' : Nat} {w : World} {ao : Option Addr} {cap : Nat} {l : List Gz.Smp} (h : Sms hi w ao cap l) (hh : hi ≤ hi') : Sms hi' w ao cap l := by
  refine ⟨h.len, fun hne => ?_⟩
  obtain ⟨b, off, h1, h2, h3⟩ := h.cells hne
  exact ⟨b, off, h1, by omega, h3⟩
theorem Sms.owns {w : World} {base : Nat} {v : Value} {l : List Gz.Smp} (h : w.ownsRow base 70 2 v l.length (smCs l)) (hl : l.length ≤ maxLen)
    (hb : ∀ s ∈ l, (-9223372036854775808 ≤ s.t ∧ s.t ≤ 9223372036854775807) ∧ s.v < 18446744073709551616) :
    ∃ ao cap, v = .slice ao l.length cap ∧ Sms w.heap.size w ao cap l := by
  have hx := h
  obtain ⟨_, ⟨rfl, hn⟩ | ⟨g, cap, cur, rfl, hbg, hh, h1, h2, h3, h4⟩⟩ := h
  · exact ⟨none, 0, by rw [hn], hl, fun hne => absurd (List.eq_nil_of_length_eq_zero hn) hne⟩
  · refine ⟨_, cap, rfl, hl, fun _ => ⟨g, 0, rfl, own_lt hx, fun j hj => ?_⟩⟩
    have hc := hx.cells (g := g) rfl
    obtain ⟨g0, g1⟩ := smCs_get hj
    have c0 := hc _ _ g0
    have c1 := hc _ _ g1
    rw [Addr.add_lit] at c0 c1
    exact ⟨c0, c1, (hb _ (List.getElem_mem hj)).1, (hb _ (List.getElem_mem hj)).2⟩

theorem Sms.fits {hi : Nat} {w : World} {ao : Option Addr} {cap : Nat} {l : List Gz.Smp} (h : Sms hi w ao cap l) : ∀ s ∈ l, (-9223372036854775808 ≤ s.t ∧ s.t ≤ 9223372036854775807) ∧ s.v < 18446744073709551616 := by
  intro s hs
  obtain ⟨i, hi, rfl⟩ := List.getElem_of_mem hs
  obtain ⟨b, off, _, _, hc⟩ := h.cells (by intro e; subst e; simp at hi)
  exact ⟨(hc i hi).t, (hc i hi).v⟩
theorem cks_get : ∀ {cs : List Ck} {us : List Value} (h : us.length = cs.length) {j : Nat} (hj : j < cs.length) (hj' : j < us.length) (i : Nat) (hi : i < 4), (cks cs us)[j * 4 + i]? = (ckc cs[j] us[j])[i]?
  | [], _, _, _, hj, _, _, _ => by simp at hj
  | _ :: _, [], h, _, _, _, _, _ => by simp at h
  | c :: cs, u :: us, h, 0, hj, hj', i, hi => by
    rw [show cks (c :: cs) (u :: us) = ckc c u ++ cks cs us by simp [cks], List.getElem?_append_left (by simp [ckc]; omega)]
    simp
  | c :: cs, u :: us, h, j + 1, hj, hj', i, hi => by
    have ih := cks_get (cs := cs) (us := us) (by simpa using h) (j := j) (by simpa using hj) (by simpa using hj') i hi
    rw [show cks (c :: cs) (u :: us) = ckc c u ++ cks cs us by simp [cks], List.getElem?_append_right (by simp [ckc]; omega)]
    rw [show (j + 1) * 4 + i - (ckc c u).length = j * 4 + i by simp [ckc]; omega]
    simpa using ih

/-- A chunk whose number of samples is any number. -/
structure Cki where
  f : Int
  t : Int
  n : Int
  d : List UInt8
def Ck.i (c : Ck) : Cki := ⟨c.f, c.t, c.n, c.d⟩
theorem Ck.i_inj {a b : Ck} (h : a.i = b.i) : a = b := by
  cases a; cases b
  simp only [Ck.i, Cki.mk.injEq] at h
  obtain ⟨h1, h2, h3, h4⟩ := h
  simp only [Ck.mk.injEq]
  exact ⟨h1, h2, by omega, h4⟩
theorem cki_ext {a b : Cki} (h1 : a.f = b.f) (h2 : a.t = b.t) (h3 : a.n = b.n) (h4 : a.d = b.d) : a = b := by cases a; cases b; simp_all
theorem map_inj : ∀ {l m : List Ck}, l.map Ck.i = m.map Ck.i → l = m
  | [], [], _ => rfl
  | [], _ :: _, h => by simp at h
  | _ :: _, [], h => by simp at h
  | a :: l, b :: m, h => by
    simp only [List.map_cons, List.cons.injEq] at h
    rw [Ck.i_inj h.1, map_inj h.2]

/-- A chunk's four cells. -/
structure ChAt (hi : Nat) (w : World) (b o : Nat) (x : Cki) : Prop where
  c0 : w.cell? ⟨b, o, none⟩ = some (.int .i64 x.f)
  c1 : w.cell? ⟨b, o + 1, none⟩ = some (.int .i64 x.t)
  c2 : w.cell? ⟨b, o + 2, none⟩ = some (.int .i64 x.n)
  c3 : ∃ u, w.cell? ⟨b, o + 3, none⟩ = some u ∧ Sl 0 hi f8 w u x.d
/-- The slice has the chunks l. -/
structure Chs (hi : Nat) (w : World) (ao : Option Addr) (cap : Nat) (l : List Cki) : Prop where
  len : l.length ≤ maxLen
  cells : l ≠ [] → ∃ b off, ao = some ⟨b, off, none⟩ ∧ b < hi ∧ ∀ j (h : j < l.length), ChAt hi w b (off + j * 4) l[j]
theorem Chs.below {hi B : Nat} {w w' : World} {ao : Option Addr} {cap : Nat} {l : List Cki} (h : Chs hi w ao cap l) (hb : Below B w w') (hh : hi ≤ B) : Chs hi w' ao cap l := by
  refine ⟨h.len, fun hne => ?_⟩
  obtain ⟨b, off, h1, h2, h3⟩ := h.cells hne
  refine ⟨b, off, h1, h2, fun j hj => ?_⟩
  obtain ⟨q0, q1, q2, u, q3, q4⟩ := h3 j hj
  have e : w'.heap[b]? = w.heap[b]? := hb.block b (by omega)
  have ec : ∀ o, w'.cell? ⟨b, o, none⟩ = w.cell? ⟨b, o, none⟩ := fun o => World.cell?_of_block e
  exact ⟨(ec _).trans q0, (ec _).trans q1, (ec _).trans q2, u, (ec _).trans q3, q4.below hb hh⟩
theorem Chs.owns {w : World} {base : Nat} {v : Value} {us : List Value} {cs : List Ck} (h : CRow w base v us cs) (hl : cs.length ≤ maxLen) (hd : ∀ c ∈ cs, c.d.length ≤ 140737488355328) :
    ∃ ao cap, v = .slice ao cs.length cap ∧ Chs w.heap.size w ao cap (cs.map Ck.i) := by
  have hx := h.row
  obtain ⟨_, ⟨rfl, hn⟩ | ⟨g, cap, cur, rfl, hbg, hh, h1, h2, h3, h4⟩⟩ := h.row
  · refine ⟨none, 0, by rw [hn], by simpa using hl, fun hne => absurd (List.eq_nil_of_length_eq_zero (by simpa using hn)) hne⟩
  · refine ⟨_, cap, rfl, by simpa using hl, fun _ => ⟨g, 0, rfl, own_lt hx, fun j hj => ?_⟩⟩
    have hj1 : j < cs.length := by simpa using hj
    have hj2 : j < us.length := by rw [h.len]; exact hj1
    have hc := hx.cells (g := g) rfl
    have get : ∀ i (hi : i < 4) x, (ckc cs[j] us[j])[i]? = some x → w.cell? ⟨g, 0 + (j * 4 + i), none⟩ = some x := by
      intro i hi x hx'
      have := hc (j * 4 + i) x ((cks_get h.len hj1 hj2 i hi).trans hx')
      rwa [Addr.add_lit] at this
    have hu := h.each j us[j] cs[j] (List.getElem?_eq_getElem hj2) (List.getElem?_eq_getElem hj1)
    rw [show (cs.map Ck.i)[j] = cs[j].i by simp]
    refine ⟨?_, ?_, ?_, us[j], ?_, ?_⟩
    · have := get 0 (by decide) _ rfl
      rw [Nat.zero_add, Nat.add_zero] at this
      rw [Nat.zero_add]
      exact this
    · exact get 1 (by decide) _ rfl
    · exact get 2 (by decide) _ rfl
    · exact get 3 (by decide) _ rfl
    · exact (Sl.owns hu (hd _ (List.getElem_mem hj1))).mono (Nat.zero_le _) (Nat.le_refl _)
end Go.Proofs.YtepjpdhmjchakaaDoor
