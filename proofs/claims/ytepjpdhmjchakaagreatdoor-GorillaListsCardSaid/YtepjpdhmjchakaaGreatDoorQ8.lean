import Derived.Test.YtepjpdhmjchakaaGreatDoorP17
import Derived.Test.YtepjpdhmjchakaaGreatDoorQ1
/- What a reader has found: bounds of the numbers, and none stays none. -/
namespace Go.Proofs.YtepjpdhmjchakaaGreatDoor
open Go.RowKit Bt
namespace Gz

theorem un_fits {x : Nat} (h : x < 18446744073709551616) : -9223372036854775808 ≤ un x ∧ un x ≤ 9223372036854775807 := by
  unfold un
  split <;> omega
theorem chgD_lt {U : List Bool} {a d b : Nat} (h : chgD U a = some (d, b)) : d < 18446744073709551616 := by
  unfold chgD at h
  simp only [Option.bind_eq_some_iff] at h
  obtain ⟨p0, _, h⟩ := h
  split at h
  · simp only [Option.some.injEq, Prod.mk.injEq] at h; omega
  simp only [Option.bind_eq_some_iff] at h
  obtain ⟨p1, _, h⟩ := h
  split at h
  · simp only [Option.map_eq_some_iff, Prod.mk.injEq] at h
    obtain ⟨q, _, h, _⟩ := h
    rw [← h]; exact Nat.mod_lt _ (by decide)
  simp only [Option.bind_eq_some_iff] at h
  obtain ⟨p2, _, h⟩ := h
  split at h
  · simp only [Option.map_eq_some_iff, Prod.mk.injEq] at h
    obtain ⟨q, _, h, _⟩ := h
    rw [← h]; exact Nat.mod_lt _ (by decide)
  simp only [Option.bind_eq_some_iff] at h
  obtain ⟨p3, _, h⟩ := h
  split at h
  · simp only [Option.map_eq_some_iff, Prod.mk.injEq] at h
    obtain ⟨q, _, h, _⟩ := h
    rw [← h]; exact Nat.mod_lt _ (by decide)
  · exact rdk_lt (by decide) h
theorem numD_fits {U : List Bool} {win : Nat × Nat} {a d b : Nat} {win' : Nat × Nat} (hw : win.1 + win.2 ≤ 63) (h : numD U win a = some (d, win', b)) : d < 18446744073709551616 ∧ win'.1 + win'.2 ≤ 63 := by
  unfold numD at h
  simp only [Option.bind_eq_some_iff] at h
  obtain ⟨p0, _, h⟩ := h
  split at h
  · simp only [Option.some.injEq, Prod.mk.injEq] at h
    obtain ⟨h1, h2, _⟩ := h
    subst h1 h2
    exact ⟨by decide, hw⟩
  simp only [Option.bind_eq_some_iff] at h
  obtain ⟨p1, _, h⟩ := h
  split at h
  · simp only [Option.map_eq_some_iff, Prod.mk.injEq] at h
    obtain ⟨q, _, h1, h2, _⟩ := h
    subst h2
    exact ⟨by rw [← h1]; exact Nat.mod_lt _ (by decide), hw⟩
  simp only [Option.bind_eq_some_iff] at h
  obtain ⟨p2, _, p3, _, h⟩ := h
  split at h
  · cases h
  · next hn =>
    simp only [Option.map_eq_some_iff, Prod.mk.injEq] at h
    obtain ⟨q, _, h1, h2, _⟩ := h
    subst h2
    exact ⟨by rw [← h1]; exact Nat.mod_lt _ (by decide), by simp only; omega⟩

/-- What holds of a reader's numbers behind k + 1 samples. -/
structure Dk (k : Nat) (d : Ds) (l : List Smp) : Prop where
  len : l.length = k + 1
  last : l.getLast? = some ⟨d.t, d.v⟩
  t : -9223372036854775808 ≤ d.t ∧ d.t ≤ 9223372036854775807
  v : d.v < 18446744073709551616
  step : d.step < 18446744073709551616
  win : d.win.1 + d.win.2 ≤ 63
  all : ∀ s ∈ l, (-9223372036854775808 ≤ s.t ∧ s.t ≤ 9223372036854775807) ∧ s.v < 18446744073709551616
theorem dec_dk (U : List Bool) : ∀ (k : Nat) (d : Ds) (l : List Smp), decN U k = some (d, l) → Dk k d l
  | 0, d, l, h => by
    unfold decN first at h
    split at h
    · cases h
    · next x a hx =>
      simp only [Option.map_eq_some_iff, Prod.mk.injEq] at h
      obtain ⟨q, hq, h1, h2⟩ := h
      subst h1 h2
      have hu := un_fits (rv_ok hx).1
      have hl := rdk_lt (by decide) hq
      refine ⟨rfl, rfl, hu, hl, by simp, by simp, fun s hs => ?_⟩
      simp at hs
      subst hs
      exact ⟨hu, hl⟩
  | k + 1, d, l, h => by
    unfold decN at h
    simp only [Option.bind_eq_some_iff, Option.map_eq_some_iff, Prod.mk.injEq] at h
    obtain ⟨⟨d0, l0⟩, h0, s, hs, h1, h2⟩ := h
    have ih := dec_dk U k d0 l0 h0
    subst h1 h2
    unfold next at hs
    simp only [Option.bind_eq_some_iff, Option.map_eq_some_iff] at hs
    obtain ⟨⟨st, a1⟩, hst, ⟨x, w', a2⟩, hx, rfl⟩ := hs
    have hstl : st < 18446744073709551616 := by
      unfold stepD at hst
      split at hst
      · split at hst
        · cases hst
        · next p hp =>
          injection hst with hst
          subst hst
          exact (rv_ok hp).1
      · simp only [Option.map_eq_some_iff, Prod.mk.injEq] at hst
        obtain ⟨q, _, h1, _⟩ := hst
        rw [← h1]; exact Nat.mod_lt _ (by decide)
    obtain ⟨hxl, hwl⟩ := numD_fits ih.win hx
    have ht : -9223372036854775808 ≤ wrap64 (d0.t + (st : Int)) ∧ wrap64 (d0.t + (st : Int)) ≤ 9223372036854775807 := by unfold wrap64; omega
    have hv := xor_lt ih.v hxl
    refine ⟨by simp [ih.len], by simp, ht, hv, hstl, hwl, fun s hs => ?_⟩
    rcases List.mem_append.1 hs with hs | hs
    · exact ih.all s hs
    · simp at hs
      subst hs
      exact ⟨ht, hv⟩
/-- None stays none. -/
theorem dec_none {U : List Bool} {k n : Nat} (h : decN U k = none) (hk : k ≤ n) : decN U n = none := by
  induction n with
  | zero =>
    obtain rfl : k = 0 := by omega
    exact h
  | succ n ih =>
    by_cases e : k = n + 1
    · subst e; exact h
    · unfold decN
      rw [ih (by omega)]
      rfl
end Gz
end Go.Proofs.YtepjpdhmjchakaaGreatDoor

/- The reader's contracts, of good readers and of bad ones in one: so that a walk need not be parted. -/
namespace Go.Proofs.YtepjpdhmjchakaaGreatDoor
open Go.RowKit
set_option linter.unusedVariables false

/-- The next bits. -/
theorem gbits_c {w : World} {Q B at_ lo hi step : Nat} {v : Value} {l : List UInt8} {bad is : Bool} {wl wr : Int} (h : Rg w Q B v at_ l lo hi bad step wl wr is) (n : Nat) (hn : n ≤ 64) :
    Calls Tryz.prog 95 #[.pointer (some ⟨Q, 0, none⟩), .int .i64 (n : Int)] w fun e w' => ∃ x a bad', x < 18446744073709551616 ∧ e = .returned (.int .u64 ((x : Nat) : Int)) ∧ Rg w' Q B v a l lo hi bad' step wl wr is ∧ Ga Q B none w w' ∧
      ((bad = false ∧ Gz.rdk (Bt.unpack l) at_ n = some (x, a) ∧ bad' = false) ∨ (bad' = true ∧ (bad = true ∨ Gz.rdk (Bt.unpack l) at_ n = none))) := by
  cases bad
  · refine (gbits_any h n hn).mono ?_
    rintro e w' (⟨x, a, h1, h2, h3, h4, h5⟩ | ⟨h1, h3, h4, h5⟩)
    · exact ⟨x, a, false, h2, h3, h4, h5, .inl ⟨rfl, h1, rfl⟩⟩
    · exact ⟨0, at_, true, by decide, h3, h4, h5, .inr ⟨rfl, .inr h1⟩⟩
  · refine (gbits_bad h n).mono ?_
    rintro e w' ⟨x, a, h1, h2, h3, h4⟩
    exact ⟨x, a, true, h1, h2, h3, h4, .inr ⟨rfl, .inl rfl⟩⟩
/-- The next change of steps. -/
theorem change_c {w : World} {Q B at_ lo hi step : Nat} {v : Value} {l : List UInt8} {bad is : Bool} {wl wr : Int} (h : Rg w Q B v at_ l lo hi bad step wl wr is) :
    Calls Tryz.prog 97 #[.pointer (some ⟨Q, 0, none⟩)] w fun e w' => ∃ x a bad', x < 18446744073709551616 ∧ e = .returned (.int .u64 ((x : Nat) : Int)) ∧ Rg w' Q B v a l lo hi bad' step wl wr is ∧ Ga Q B none w w' ∧
      ((bad = false ∧ Gz.chgD (Bt.unpack l) at_ = some (x, a) ∧ bad' = false) ∨ (bad' = true ∧ (bad = true ∨ Gz.chgD (Bt.unpack l) at_ = none))) := by
  cases bad
  · refine (change_any h).mono ?_
    rintro e w' (⟨x, a, h1, h2, h3, h4, h5⟩ | ⟨h1, x, a, h2, h3, h4, h5⟩)
    · exact ⟨x, a, false, h2, h3, h4, h5, .inl ⟨rfl, h1, rfl⟩⟩
    · exact ⟨x, a, true, h2, h3, h4, h5, .inr ⟨rfl, .inr h1⟩⟩
  · refine (change_bad h).mono ?_
    rintro e w' ⟨x, a, h1, h2, h3, h4⟩
    exact ⟨x, a, true, h1, h2, h3, h4, .inr ⟨rfl, .inl rfl⟩⟩
/-- The next number; of a good reader the window is one of naturals. -/
theorem number_c {w : World} {Q B at_ lo hi step : Nat} {v : Value} {l : List UInt8} {bad is : Bool} {wl wr : Int} (h : Rg w Q B v at_ l lo hi bad step wl wr is) (hw : bad = false → ∃ a b : Nat, wl = a ∧ wr = b ∧ a + b ≤ 63) :
    Calls Tryz.prog 98 #[.pointer (some ⟨Q, 0, none⟩)] w fun e w' => ∃ x c bad' wl' wr', x < 18446744073709551616 ∧ e = .returned (.int .u64 ((x : Nat) : Int)) ∧ Rg w' Q B v c l lo hi bad' step wl' wr' is ∧ Ga Q B none w w' ∧
      ((bad = false ∧ (∃ a b a' b' : Nat, wl = a ∧ wr = b ∧ wl' = a' ∧ wr' = b' ∧ Gz.numD (Bt.unpack l) (a, b) at_ = some (x, (a', b'), c) ∧ a' + b' ≤ 63) ∧ bad' = false) ∨
       (bad' = true ∧ (bad = true ∨ ∃ a b : Nat, wl = a ∧ wr = b ∧ Gz.numD (Bt.unpack l) (a, b) at_ = none))) := by
  cases bad
  · obtain ⟨a, b, rfl, rfl, hab⟩ := hw rfl
    refine (gnumber_any h hab).mono ?_
    rintro e w' (⟨x, a', b', c, h1, h2, h3, h4, h5, h6⟩ | ⟨h1, x, c, wl', wr', h2, h3, h4, h5⟩)
    · exact ⟨x, c, false, _, _, h2, h3, h4, h6, .inl ⟨rfl, ⟨a, b, a', b', rfl, rfl, rfl, rfl, h1, h5⟩, rfl⟩⟩
    · exact ⟨x, c, true, wl', wr', h2, h3, h4, h5, .inr ⟨rfl, .inr ⟨a, b, rfl, rfl, h1⟩⟩⟩
  · refine (gnumber_bad h).mono ?_
    rintro e w' ⟨x, c, wl', wr', h1, h2, h3, h4⟩
    exact ⟨x, c, true, wl', wr', h1, h2, h3, h4, .inr ⟨rfl, .inl rfl⟩⟩
theorem rvg_err : ∀ (U : List Bool) (f k a acc er : Nat), Bt.rvg U f k a acc = .inl er → er ≠ 0
  | U, 0, k, a, acc, er, h => by
    unfold Bt.rvg at h
    injection h with h
    omega
  | U, f + 1, k, a, acc, er, h => by
    unfold Bt.rvg at h
    repeat' split at h
    all_goals first
      | (injection h with h; omega)
      | exact rvg_err U f _ _ _ er h
      | cases h
theorem rv_err {U : List Bool} {a er : Nat} (h : Bt.rv U a = .inl er) : er ≠ 0 := rvg_err U 10 0 a 0 er h
/-- The bits' reader's Signed. -/
theorem signed_c (lo hi : Nat) (w : World) (B at_ : Nat) (v : Value) (l : List UInt8) (h : Rd w B v at_ l lo hi) (hhi : hi ≤ w.heap.size) :
    Calls Tryz.prog 94 #[.pointer (some ⟨B, 0, none⟩)] w fun e w' => ∃ (t : Int) (er a : Nat), e = .returned (.tuple #[.int .i64 t, .int .u16 (er : Int)]) ∧ (-9223372036854775808 ≤ t ∧ t ≤ 9223372036854775807) ∧ Rd w' B v a l lo hi ∧ Gro B none w w' ∧
      ((er = 0 ∧ ∃ x, Bt.rv (Bt.unpack l) at_ = .inr (x, a) ∧ t = un x) ∨ (er ≠ 0 ∧ Bt.rv (Bt.unpack l) at_ = .inl er ∧ a = at_ ∧ t = 0)) := by
  refine (rsigned_any lo hi w B at_ v l h hhi).mono ?_
  intro e w' hp
  cases hr : Bt.rv (Bt.unpack l) at_ with
  | inl er =>
    rw [hr] at hp
    obtain ⟨h1, h2, h3⟩ := hp
    exact ⟨0, er, at_, h1, by decide, h2, h3, .inr ⟨rv_err hr, rfl, rfl, rfl⟩⟩
  | inr p =>
    obtain ⟨x, a⟩ := p
    rw [hr] at hp
    obtain ⟨h1, h2, h3⟩ := hp
    exact ⟨un x, 0, a, h1, Gz.un_fits (Bt.rv_ok hr).1, h2, h3, .inl ⟨rfl, x, rfl, rfl⟩⟩
/-- The bits' reader's Varint. -/
theorem varint_c (lo hi : Nat) (w : World) (B at_ : Nat) (v : Value) (l : List UInt8) (h : Rd w B v at_ l lo hi) (hhi : hi ≤ w.heap.size) :
    Calls Tryz.prog 96 #[.pointer (some ⟨B, 0, none⟩)] w fun e w' => ∃ (x er a : Nat), x < 18446744073709551616 ∧ e = .returned (.tuple #[.int .u64 (x : Int), .int .u16 (er : Int)]) ∧ Rd w' B v a l lo hi ∧ Gro B none w w' ∧
      ((er = 0 ∧ Bt.rv (Bt.unpack l) at_ = .inr (x, a)) ∨ (er ≠ 0 ∧ Bt.rv (Bt.unpack l) at_ = .inl er)) := by
  refine (rvarint_any lo hi w B at_ v l h hhi).mono ?_
  intro e w' hp
  cases hr : Bt.rv (Bt.unpack l) at_ with
  | inl er =>
    rw [hr] at hp
    obtain ⟨h1, h2, h3⟩ := hp
    exact ⟨0, er, at_, by decide, h1, h2, h3, .inr ⟨rv_err hr, rfl⟩⟩
  | inr p =>
    obtain ⟨x, a⟩ := p
    rw [hr] at hp
    obtain ⟨h1, h2, h3⟩ := hp
    exact ⟨x, 0, a, (Bt.rv_ok hr).1, h1, h2, h3, .inl ⟨rfl, rfl⟩⟩
end Go.Proofs.YtepjpdhmjchakaaGreatDoor

/- The program's read of a chunk: one whose number of samples is out of bounds. -/
namespace Go.Proofs.YtepjpdhmjchakaaGreatDoor
open Go.RowKit
set_option linter.unusedVariables false

set_option maxHeartbeats 1000000 in
set_option maxRecDepth 100000 in
/-- A chunk whose number of samples is out of bounds is none. -/
theorem read_out (w : World) (F T N : Int) (u : Value) (hN : N < 1 ∨ 120 < N) :
    Calls Tryz.prog 72 #[.agg #[.int .i64 F, .int .i64 T, .int .i64 N, u]] w fun e w' => e = .returned (.tuple #[.slice none 0 0, .bool false]) ∧ Below w.heap.size w w' := by
  obtain ⟨Wa, hWa⟩ : ∃ Wa, w.alloc (.cells #[.int .i64 F, .int .i64 T, .int .i64 N, u] 26) = Wa := ⟨_, rfl⟩
  have hba : Below w.heap.size w Wa := by rw [← hWa]; exact (Below.refl _ _).alloc (Nat.le_refl _) _
  have hbx : Wa.heap[w.heap.size]? = some (.cells #[.int .i64 F, .int .i64 T, .int .i64 N, u] 26 (0, 0)) := by rw [← hWa]; exact heap_alloc_new w _
  obtain ⟨k0, k1, k2, k3, kz⟩ := box4 hbx
  have HBA := Lib.hid hba
  clear hba hbx
  by_cases h1 : N < 1
  · have g1 : decide (N < 1) = true := decide_eq_true h1
    go_enter Tryz.func72, Tryz.ntmps72
    go_wp2
    go_ret2
    exact ⟨rfl, HBA.out⟩
  · have g1 : decide (N < 1) = false := decide_eq_false h1
    have g2 : decide (120 < N) = true := decide_eq_true (by omega)
    go_enter Tryz.func72, Tryz.ntmps72
    go_wp2
    go_ret2
    exact ⟨rfl, HBA.out⟩
end Go.Proofs.YtepjpdhmjchakaaGreatDoor

/- The pieces of a list, once more: none is empty, how many there are; what a chunk's reader finds, as a function. Plain. -/
namespace Go.Proofs.YtepjpdhmjchakaaGreatDoor
open Go.RowKit Bt
set_option linter.unusedVariables false

/-- What a chunk's reader finds, if it is one. -/
def RdOk (F T N : Int) (D : List UInt8) (ls : List Gz.Smp) : Prop :=
  1 ≤ N ∧ N ≤ 120 ∧ ∃ d, Gz.decN (Bt.unpack D) (N.toNat - 1) = some (d, ls) ∧ Gz.Fine ls ∧ (Gz.Ap.all ls).first = F ∧ (Gz.Ap.all ls).t = T ∧ Bt.pack (Gz.Ap.all ls).L = D
theorem RdOk.uniq {F T N : Int} {D : List UInt8} {l l' : List Gz.Smp} (h : RdOk F T N D l) (h' : RdOk F T N D l') : l = l' := by
  obtain ⟨_, _, d, h1, _⟩ := h
  obtain ⟨_, _, d', h2, _⟩ := h'
  rw [h1] at h2
  injection h2 with h2
  injection h2
theorem RdOk.len {F T N : Int} {D : List UInt8} {l : List Gz.Smp} (h : RdOk F T N D l) : (l.length : Int) = N := by
  obtain ⟨h1, h2, d, h3, _⟩ := h
  have := (Gz.dec_dk _ _ _ _ h3).len
  omega
theorem RdOk.fine {F T N : Int} {D : List UInt8} {l : List Gz.Smp} (h : RdOk F T N D l) : Gz.Fine l := by
  obtain ⟨_, _, _, _, h, _⟩ := h
  exact h
theorem RdOk.fits {F T N : Int} {D : List UInt8} {l : List Gz.Smp} (h : RdOk F T N D l) : ∀ s ∈ l, (-9223372036854775808 ≤ s.t ∧ s.t ≤ 9223372036854775807) ∧ s.v < 18446744073709551616 := fun s hs => by
  have := h.fine.far s hs
  unfold Gz.far at this
  omega
open Classical in
/-- The samples of a chunk, if it is one. -/
noncomputable def rdo (c : Cki) : Option (List Gz.Smp) := if h : ∃ ls, RdOk c.f c.t c.n c.d ls then some (Classical.choose h) else none
theorem rdo_some {c : Cki} {ls : List Gz.Smp} : rdo c = some ls ↔ RdOk c.f c.t c.n c.d ls := by
  unfold rdo
  constructor
  · intro h
    split at h
    · next hx =>
      injection h with h
      subst h
      exact Classical.choose_spec hx
    · cases h
  · intro h
    have hx : ∃ ls, RdOk c.f c.t c.n c.d ls := ⟨ls, h⟩
    rw [dif_pos hx, (Classical.choose_spec hx).uniq h]
theorem rdo_none {c : Cki} : rdo c = none ↔ ¬ ∃ ls, RdOk c.f c.t c.n c.d ls := by
  constructor
  · rintro h ⟨ls, hl⟩
    rw [rdo_some.2 hl] at h
    cases h
  · intro h
    unfold rdo
    rw [dif_neg h]

namespace Gz
/-- The pieces of a list: none is empty; how many there are. -/
theorem cut_pieces' {l : List Smp} (hg : Good l) : ∃ P : List (List Smp), P.flatten = l ∧ (∀ p ∈ P, Fine p ∧ p ≠ []) ∧ cut l = P.map (fun p => ckOf (Ap.all p)) ∧ P.length = (l.length + 119) / 120 := by
  obtain ⟨P, c, rfl, hP, hc, hn, e⟩ := at_all _ l rfl hg
  have hlen : ∀ Q : List (List Smp), (∀ p ∈ Q, Fine p ∧ p.length = 120) → Q.flatten.length = 120 * Q.length := by
    intro Q
    induction Q with
    | nil => intro _; rfl
    | cons p Q ih =>
      intro h
      rw [List.flatten_cons, List.length_append, ih (fun q hq => h q (by simp [hq])), (h p (by simp)).2, List.length_cons]
      omega
  have h120 := hlen P hP
  have hcl := hc.len
  unfold cut
  rw [e]
  simp only
  rw [all_n hc]
  by_cases h : 0 < c.length
  · rw [if_pos h]
    refine ⟨P ++ [c], by simp, fun p hp => ?_, by simp, ?_⟩
    · rcases List.mem_append.1 hp with hp | hp
      · exact ⟨(hP p hp).1, fun e => by have := (hP p hp).2; rw [e] at this; simp at this⟩
      · simp at hp; subst hp; exact ⟨hc, fun e => by subst e; simp at h⟩
    · rw [List.length_append, List.length_append, h120, List.length_singleton]
      omega
  · rw [if_neg h]
    obtain rfl := List.eq_nil_of_length_eq_zero (by omega : c.length = 0)
    obtain rfl := hn rfl
    exact ⟨[], by simp, fun p hp => by simp at hp, rfl, by simp⟩
theorem all_first {s : Smp} {l : List Smp} : (Ap.all (s :: l)).first = s.t := by
  have key : ∀ (n : Nat) (l : List Smp), l.length = n → (Ap.all (s :: l)).first = s.t ∧ (Ap.all (s :: l)).n ≠ 0 := by
    intro n
    induction n with
    | zero =>
      intro l hl
      obtain rfl := List.eq_nil_of_length_eq_zero hl
      exact ⟨rfl, by simp [Ap.all, Ap.add, Ap.new]⟩
    | succ n ih =>
      intro l hl
      obtain ⟨l, b, rfl⟩ := snoc_ex l (by intro e; subst e; simp at hl)
      obtain ⟨i1, i2⟩ := ih l (by simpa using hl)
      rw [← List.cons_append, Ap.all_snoc]
      generalize Ap.all (s :: l) = a at *
      unfold Ap.add
      rw [if_neg i2]
      exact ⟨i1, by simp⟩
  exact (key _ l rfl).1
theorem all_last {l : List Smp} (h : Fine l) {s : Smp} (hs : l.getLast? = some s) : (Ap.all l).t = s.t := ((all_has _ l rfl h).2.2 s hs).1
end Gz
/-- A chunk that was made is one. -/
theorem rdo_of {p : List Gz.Smp} (hf : Gz.Fine p) (hne : p ≠ []) : rdo (Gz.ckOf (Gz.Ap.all p)).i = some p := by
  have hl := List.length_pos_iff.2 hne
  have hn := Gz.all_n hf
  have h120 := hf.len
  obtain ⟨d, e1, _⟩ := Gz.dec_has (unpack (pack (Gz.Ap.all p).L)) (p.length - 1) p (by omega) hf (by rw [unpack_pack]; exact Gz.Has.start _ _)
  refine rdo_some.2 ⟨?_, ?_, d, ?_, hf, rfl, rfl, rfl⟩
  · show (1 : Int) ≤ ((Gz.Ap.all p).n : Int)
    omega
  · show ((Gz.Ap.all p).n : Int) ≤ 120
    omega
  · show Gz.decN (unpack (pack (Gz.Ap.all p).L)) (((Gz.Ap.all p).n : Int).toNat - 1) = some (d, p)
    rw [hn, Int.toNat_natCast]
    exact e1

/-- What chunks are as samples, and the error. -/
noncomputable def dcd (l : List Cki) : List Gz.Smp × Int :=
  open Classical in
  if ∃ c ∈ l, rdo c = none then ([], 101) else if ∃ (i : Nat) (a b : Cki), l[i]? = some a ∧ l[i + 1]? = some b ∧ b.f ≤ a.t then ([], 100) else ((l.map fun c => (rdo c).getD []).flatten, 0)
theorem good_next {p q : List Gz.Smp} {a b : Gz.Smp} (h : Gz.Good (p ++ q)) (ha : p.getLast? = some a) (hb : q.head? = some b) : a.t < b.t := by
  have hp : p ≠ [] := by intro e; subst e; simp at ha
  have hl := List.length_pos_iff.2 hp
  have hq : q ≠ [] := by intro e; subst e; simp at hb
  have hl2 := List.length_pos_iff.2 hq
  refine h.rise (p.length - 1) a b ?_ ?_
  · rw [List.getElem?_append_left (by omega), ← List.getLast?_eq_getElem?]
    exact ha
  · rw [List.getElem?_append_right (by omega), show p.length - 1 + 1 - p.length = 0 by omega, ← List.head?_eq_getElem?]
    exact hb
/-- The chunks of a good list are its samples. -/
theorem dcd_cut {l : List Gz.Smp} (hg : Gz.Good l) : dcd ((Gz.cut l).map Ck.i) = (l, 0) := by
  obtain ⟨P, hPl, hP, e, _⟩ := Gz.cut_pieces' hg
  rw [e, List.map_map]
  have hr : ∀ p ∈ P, rdo ((Ck.i ∘ fun p => Gz.ckOf (Gz.Ap.all p)) p) = some p := fun p hp => rdo_of (hP p hp).1 (hP p hp).2
  unfold dcd
  rw [if_neg, if_neg]
  · rw [List.map_map]
    have : P.map ((fun c => (rdo c).getD []) ∘ (Ck.i ∘ fun p => Gz.ckOf (Gz.Ap.all p))) = P.map id := List.map_congr_left fun p hp => by
      show (rdo ((Ck.i ∘ fun p => Gz.ckOf (Gz.Ap.all p)) p)).getD [] = p
      rw [hr p hp]; rfl
    rw [this, List.map_id, hPl]
  · rintro ⟨i, a, b, ha, hb, hle⟩
    rw [List.getElem?_map] at ha hb
    obtain ⟨p, hp, rfl⟩ := Option.map_eq_some_iff.1 ha
    obtain ⟨q, hq, rfl⟩ := Option.map_eq_some_iff.1 hb
    obtain ⟨f1, n1⟩ := hP p (List.mem_of_getElem? hp)
    obtain ⟨f2, n2⟩ := hP q (List.mem_of_getElem? hq)
    obtain ⟨p', x, rfl⟩ := Gz.snoc_ex p n1
    obtain ⟨y, q', rfl⟩ := List.exists_cons_of_ne_nil n2
    have h1 : (Gz.Ap.all (p' ++ [x])).t = x.t := Gz.all_last f1 (by simp)
    have h2 : (Gz.Ap.all (y :: q')).first = y.t := Gz.all_first
    have hx : (Gz.Ap.all (y :: q')).first ≤ (Gz.Ap.all (p' ++ [x])).t := hle
    rw [h1, h2] at hx
    have hi := (List.getElem?_eq_some_iff.1 hq).1
    have hsplit : P = P.take i ++ ((p' ++ [x]) :: (y :: q') :: P.drop (i + 2)) := by
      have e1 : P.drop i = (p' ++ [x]) :: P.drop (i + 1) := by rw [List.drop_eq_getElem_cons (by omega), (List.getElem?_eq_some_iff.1 hp).2]
      have e2 : P.drop (i + 1) = (y :: q') :: P.drop (i + 2) := by rw [List.drop_eq_getElem_cons hi, (List.getElem?_eq_some_iff.1 hq).2]
      rw [← e2, ← e1, List.take_append_drop]
    rw [← hPl, hsplit] at hg
    rw [List.flatten_append] at hg
    have hg2 := hg.suf
    rw [List.flatten_cons, List.flatten_cons, ← List.append_assoc] at hg2
    have := good_next hg2.pre (a := x) (b := y) (by simp) (by simp)
    omega
  · rintro ⟨c, hc, hn⟩
    obtain ⟨p, hp, rfl⟩ := List.mem_map.1 hc
    rw [hr p hp] at hn
    cases hn
end Go.Proofs.YtepjpdhmjchakaaGreatDoor
