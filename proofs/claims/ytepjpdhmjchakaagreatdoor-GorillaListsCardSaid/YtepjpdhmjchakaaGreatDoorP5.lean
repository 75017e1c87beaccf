import Derived.Test.YtepjpdhmjchakaaGreatDoorP3
import Derived.Test.YtepjpdhmjchakaaGreatDoorP2
import Derived.Test.YtepjpdhmjchakaaGreatDoorP4
import Derived.Lib.TrailingZeros
/- Numbers in groups of seven: what is read is what is put. Plain Lean. -/
namespace Go.Proofs.YtepjpdhmjchakaaGreatDoor.Bt

theorem group8 (U : List Bool) (a : Nat) (h : ¬ U.length < a + 8) : nb (val ((U.drop a).take 8)) 8 = (U.drop a).take 8 := by
  have hl : ((U.drop a).take 8).length = 8 := by rw [List.length_take, List.length_drop]; omega
  have := nb_val ((U.drop a).take 8)
  rwa [hl] at this
theorem group8_lt (U : List Bool) (a : Nat) : val ((U.drop a).take 8) < 256 := by
  have h1 := val_lt ((U.drop a).take 8)
  have h2 : ((U.drop a).take 8).length ≤ 8 := List.length_take_le _ _
  have h3 : 2 ^ ((U.drop a).take 8).length ≤ 2 ^ 8 := Nat.pow_le_pow_right (by omega) h2
  omega

theorem pow64 (i : Nat) (h : i < 9) : 2 ^ (64 - 7 * i) = 128 * 2 ^ (64 - 7 * (i + 1)) := by
  rw [show 64 - 7 * i = 7 + (64 - 7 * (i + 1)) from by omega, Nat.pow_add]

theorem rvg_ok (U : List Bool) (f : Nat) : ∀ i a acc x a', i + f = 10 → rvg U f i a acc = .inr (x, a') →
    ∃ y, x = acc + y * 128 ^ i ∧ y < 2 ^ (64 - 7 * i) ∧ a + 8 ≤ a' ∧ a' ≤ U.length ∧ (U.drop a).take (a' - a) = vbf f y ∧ (0 < i → 0 < y) ∧ (a' - a) % 8 = 0 := by
  induction f with
  | zero => intro i a acc x a' _ h; simp [rvg] at h
  | succ f ih =>
    intro i a acc x a' hi h
    rw [rvg] at h
    by_cases h1 : U.length < a + 8
    · rw [if_pos h1] at h; cases h
    rw [if_neg h1] at h
    have hg := group8 U a h1
    have hgl := group8_lt U a
    generalize hG : val ((U.drop a).take 8) = G at *
    by_cases h2 : i = 9 ∧ 1 < G
    · rw [if_pos h2] at h; cases h
    rw [if_neg h2] at h
    by_cases h3 : G < 128
    · rw [if_pos h3] at h
      by_cases h4 : 0 < i ∧ G = 0
      · rw [if_pos h4] at h; cases h
      rw [if_neg h4] at h
      injection h with h
      injection h with h5 h6
      subst h6
      refine ⟨G, by rw [← h5, Nat.mod_eq_of_lt h3], ?_, by omega, by omega, ?_, by omega, by omega⟩
      · by_cases h9 : i < 9
        · have : 2 ^ 8 ≤ 2 ^ (64 - 7 * i) := Nat.pow_le_pow_right (by omega) (by omega)
          omega
        · have : i = 9 := by omega
          subst this
          have : G ≤ 1 := by omega
          omega
      · rw [show a + 8 - a = 8 from by omega, ← hg, vbf, if_neg (by omega)]
    · rw [if_neg h3] at h
      have h9 : i < 9 := by omega
      obtain ⟨y, e1, e2, e3, e4, e5, e6, e7⟩ := ih (i + 1) (a + 8) _ x a' (by omega) h
      have hy := e6 (by omega)
      refine ⟨G % 128 + 128 * y, ?_, ?_, by omega, e4, ?_, by omega, by omega⟩
      · rw [e1, Nat.add_mul, Nat.pow_succ, Nat.mul_right_comm, Nat.add_assoc]; congr 2; rw [Nat.mul_comm y, Nat.mul_comm (128 ^ i), Nat.mul_right_comm, Nat.mul_comm]
      · rw [pow64 i h9]; omega
      · rw [show a' - a = 8 + (a' - (a + 8)) from by omega, List.take_add, ← hg, List.drop_drop, e5, vbf, if_pos (by omega)]
        congr 2
        · congr 1; omega
        · congr 1; omega

theorem rvg_back (C : List Bool) (f : Nat) : ∀ (A : List Bool) i y acc, i + f = 10 → y < 2 ^ (64 - 7 * i) → (0 < i → 0 < y) →
    rvg (A ++ vbf f y ++ C) f i A.length acc = .inr (acc + y * 128 ^ i, A.length + (vbf f y).length) := by
  induction f with
  | zero =>
    intro A i y acc hi hy h0
    have : i = 10 := by omega
    subst this
    simp at hy
    omega
  | succ f ih =>
    intro A i y acc hi hy h0
    have hgrp : ∃ g D, g < 256 ∧ vbf (f + 1) y = nb g 8 ++ D ∧ ((y ≤ 127 ∧ g = y ∧ D = []) ∨ (127 < y ∧ g = y % 128 + 128 ∧ D = vbf f (y / 128))) := by
      rw [vbf]
      by_cases h : 127 < y
      · exact ⟨_, _, by omega, by rw [if_pos h], Or.inr ⟨h, rfl, rfl⟩⟩
      · exact ⟨y, [], by omega, by rw [if_neg h, List.append_nil], Or.inl ⟨by omega, rfl, rfl⟩⟩
    obtain ⟨g, D, hg, hv, hc⟩ := hgrp
    have hdrop : ((A ++ vbf (f + 1) y ++ C).drop A.length).take 8 = nb g 8 := by
      rw [hv, List.append_assoc, List.drop_left, List.append_assoc, List.take_append_of_le_length (by rw [nb_len]; omega), List.take_of_length_le (by rw [nb_len]; omega)]
    have hl : ¬ (A ++ vbf (f + 1) y ++ C).length < A.length + 8 := by
      rw [hv]; simp [nb_len]
    rw [rvg, if_neg hl, hdrop, val_nb, Nat.mod_eq_of_lt (show g < 2 ^ 8 from hg)]
    have h9 : i = 9 → y ≤ 1 := by intro e; subst e; simp at hy; omega
    rw [if_neg (by omega)]
    rcases hc with ⟨c1, c2, c3⟩ | ⟨c1, c2, c3⟩
    · subst c2
      rw [if_pos (by omega), if_neg (by omega), hv, c3, Nat.mod_eq_of_lt (by omega)]
      simp [nb_len]
    · rw [if_neg (by omega)]
      have h8 : i < 9 := by omega
      rw [pow64 i h8] at hy
      have := ih (A ++ nb g 8) (i + 1) (y / 128) (acc + g % 128 * 128 ^ i) (by omega) (by omega) (by omega)
      rw [List.length_append, nb_len] at this
      rw [hv, c3, ← List.append_assoc A, this, List.length_append, nb_len]
      congr 2
      · rw [c2, Nat.pow_succ, Nat.add_assoc, show (y % 128 + 128) % 128 = y % 128 from by omega, Nat.mul_comm (128 ^ i) 128, ← Nat.mul_assoc, ← Nat.add_mul]
        congr 2; omega
      · omega

theorem rv_ok {U : List Bool} {a x a' : Nat} (h : rv U a = .inr (x, a')) : x < 18446744073709551616 ∧ a + 8 ≤ a' ∧ a' ≤ U.length ∧ (U.drop a).take (a' - a) = vb x ∧ (a' - a) % 8 = 0 := by
  obtain ⟨y, e1, e2, e3, e4, e5, _, e7⟩ := rvg_ok U 10 0 a 0 x a' (by omega) h
  have : x = y := by rw [e1]; simp
  subst this
  exact ⟨by simpa using e2, e3, e4, e5, e7⟩
theorem rv_back (A C : List Bool) (v : Nat) (h : v < 18446744073709551616) : rv (A ++ vb v ++ C) A.length = .inr (v, A.length + (vb v).length) := by
  have := rvg_back C 10 A 0 v 0 (by omega) (by simpa using h) (by omega)
  simpa [rv, vb] using this

theorem vbf_le (k : Nat) : ∀ v, (vbf k v).length ≤ 8 * (k + 1) ∧ 8 ≤ (vbf k v).length := by
  induction k with
  | zero => intro v; rw [vbf, nb_len]; omega
  | succ k ih =>
    intro v
    rw [vbf]; split
    · rw [List.length_append, nb_len]; have := ih (v / 128); omega
    · rw [nb_len]; omega
theorem vbf_mono (k : Nat) : ∀ a b, a ≤ b → (vbf k a).length ≤ (vbf k b).length := by
  induction k with
  | zero => intro a b _; rw [vbf, vbf, nb_len, nb_len]; omega
  | succ k ih =>
    intro a b h
    rw [vbf, vbf]
    by_cases ha : 127 < a
    · rw [if_pos ha, if_pos (by omega), List.length_append, List.length_append, nb_len, nb_len]
      have := ih (a / 128) (b / 128) (Nat.div_le_div_right h)
      omega
    · rw [if_neg ha]
      split
      · rw [List.length_append, nb_len, nb_len]; omega
      · rw [nb_len, nb_len]; omega
theorem vb_le (v : Nat) (h : v < 18446744073709551616) : (vb v).length ≤ 80 ∧ 8 ≤ (vb v).length := by
  have e : vb v = vbf 9 v := vbf_fuel 9 v (Nat.lt_of_lt_of_le h (by decide)) 1
  rw [e]; exact vbf_le 9 v
theorem vb_mono (a b : Nat) (h : a ≤ b) : (vb a).length ≤ (vb b).length := vbf_mono 10 a b h

/-- Whole bytes of an unpacked row. -/
theorem pack_take_unpack (l : List UInt8) (n : Nat) (h : n ≤ l.length) : pack ((unpack l).take (8 * n)) = l.take n := by
  have : (unpack l).take (8 * n) = unpack (l.take n) := by
    apply List.ext_getElem?
    intro j
    by_cases hj : j < 8 * n
    · rw [List.getElem?_take_of_lt hj, unpack_get _ _ (by omega), unpack_get _ _ (by rw [List.length_take]; omega)]
      unfold mbit
      have : j / 8 < n := by omega
      simp [List.getD, this]
    · rw [List.getElem?_eq_none (by simp; omega), List.getElem?_eq_none (by rw [unpack_len, List.length_take]; omega)]
  rw [this, pack_unpack]
end Go.Proofs.YtepjpdhmjchakaaGreatDoor.Bt

/- The program's bit reader: Bit and Signed; and the chapter's example. -/
namespace Go.Proofs.YtepjpdhmjchakaaGreatDoor
open Go.RowKit

theorem and1 (v : Nat) : bits .and .u64 (v : Int) 1 = ((v % 2 : Nat) : Int) := by
  show IntKind.u64.wrap ((BitVec.ofInt 64 (v : Int) &&& BitVec.ofInt 64 (1 : Int)).toNat : Int) = _
  have e3 : (BitVec.ofInt 64 (1 : Int)).toNat = 2 ^ 1 - 1 := by decide
  rw [BitVec.ofInt_natCast, BitVec.toNat_and, BitVec.toNat_ofNat, e3, Nat.and_two_pow_sub_one_eq_mod, Nat.mod_mod_of_dvd _ (by decide : 2 ^ 1 ∣ 2 ^ 64), IntWalk.u64_in _ (by have := Nat.mod_lt v (show 0 < 2 ^ 1 by omega); omega)]

/-- What a signed number was before it was put. -/
def un (x : Nat) : Int := if x % 2 = 0 then (x / 2 : Nat) else -((x / 2 : Nat) : Int) - 1
theorem un_zz (s : Int) : un (zz s) = s := by
  unfold un zz
  by_cases h : 0 ≤ s
  · rw [if_pos h, if_pos (by omega)]; omega
  · rw [if_neg h, if_neg (by omega)]; omega
theorem zz_un (x : Nat) : zz (un x) = x := by
  unfold un zz
  by_cases h : x % 2 = 0
  · rw [if_pos h, if_pos (by omega)]; omega
  · rw [if_neg h, if_neg (by omega)]; omega

theorem xor_ev (a : Nat) (h : a < 9223372036854775808) : bits .xor .i64 (a : Int) 0 = (a : Int) := by
  show IntKind.i64.wrap ((BitVec.ofInt 64 (a : Int) ^^^ BitVec.ofInt 64 (0 : Int)).toNat : Int) = _
  rw [BitVec.ofInt_natCast, show BitVec.ofInt 64 (0 : Int) = 0#64 from by decide, BitVec.xor_zero, BitVec.toNat_ofNat, Nat.mod_eq_of_lt (by omega)]
  rw [IntKind.wrap_i64]; omega
theorem xor_od (a : Nat) (h : a < 9223372036854775808) : bits .xor .i64 (a : Int) (-1) = -(a : Int) - 1 := by
  show IntKind.i64.wrap ((BitVec.ofInt 64 (a : Int) ^^^ BitVec.ofInt 64 (-1 : Int)).toNat : Int) = _
  rw [BitVec.ofInt_natCast, show BitVec.ofInt 64 (-1 : Int) = BitVec.allOnes 64 from by decide, BitVec.xor_allOnes, BitVec.toNat_not, BitVec.toNat_ofNat, Nat.mod_eq_of_lt (by omega)]
  unfold IntKind.wrap
  simp [IntKind.bits, IntKind.signed]
  omega

/-- What Signed comes to. -/
def RsPost (w : World) (B at_ lo hi : Nat) (v : Value) (l : List UInt8) : Nat ⊕ (Nat × Nat) → Ending → World → Prop
  | .inl er, e, w' => e = .returned (.tuple #[.int .i64 0, .int .u16 (er : Int)]) ∧ Rd w' B v at_ l lo hi ∧ Gro B none w w'
  | .inr (x, a'), e, w' => e = .returned (.tuple #[.int .i64 (un x), .int .u16 0]) ∧ Rd w' B v a' l lo hi ∧ Gro B none w w'

theorem rsigned_any (lo hi : Nat) (w : World) (B at_ : Nat) (v : Value) (l : List UInt8) (h : Rd w B v at_ l lo hi) (hhi : hi ≤ w.heap.size) :
    Calls Tryz.prog 94 #[.pointer (some ⟨B, 0, none⟩)] w (RsPost w B at_ lo hi v l (Bt.rv (Bt.unpack l) at_)) := by
  have HC := rvarint_any lo hi w B at_ v l h hhi
  clear h
  cases hr : Bt.rv (Bt.unpack l) at_ with
  | inl er =>
    rw [hr] at HC
    have HC := Lib.hid HC
    clear hr
    have q1 : bits .and .u64 0 1 = 0 := by decide
    have q2 : bits .xor .i64 0 0 = 0 := by decide
    go_enter Tryz.func94, Tryz.ntmps94
    go_wp2_with (go_at_call 96; refine Calls.mono (by exact HC.out) ?_; rintro e w1 ⟨rfl, hr1, hg1⟩)
    go_ret2
    exact ⟨rfl, hr1, hg1⟩
  | inr p =>
    obtain ⟨x, a'⟩ := p
    rw [hr] at HC
    have hx := (Bt.rv_ok hr).1
    have HC := Lib.hid HC
    clear hr
    have e1 := and1 x
    have e2 : x % 2 = 0 ∨ x % 2 = 1 := by omega
    have e3 : x / 2 < 9223372036854775808 := by omega
    rcases e2 with e2 | e2
    · have e5 : un x = ((x / 2 : Nat) : Int) := by unfold un; rw [if_pos e2]
      have e4 : bits .xor .i64 ((x : Int) / 2) 0 = un x := by rw [e5]; exact xor_ev (x / 2) e3
      clear e5
      rw [e2] at e1
      clear e2
      go_enter Tryz.func94, Tryz.ntmps94
      go_wp2_with (go_at_call 96; refine Calls.mono (by exact HC.out) ?_; rintro e w1 ⟨rfl, hr1, hg1⟩)
      go_ret2
      exact ⟨rfl, hr1, hg1⟩
    · have e5 : un x = -((x / 2 : Nat) : Int) - 1 := by unfold un; rw [if_neg (by omega)]
      have e4 : bits .xor .i64 ((x : Int) / 2) (-1) = un x := by rw [e5]; exact xor_od (x / 2) e3
      clear e5
      rw [e2] at e1
      clear e2
      go_enter Tryz.func94, Tryz.ntmps94
      go_wp2_with (go_at_call 96; refine Calls.mono (by exact HC.out) ?_; rintro e w1 ⟨rfl, hr1, hg1⟩)
      go_ret2
      exact ⟨rfl, hr1, hg1⟩
end Go.Proofs.YtepjpdhmjchakaaGreatDoor

/- Chunks, in plain Lean: what an appender has, what a reader finds; the one is the other's undoing. No program. -/
namespace Go.Proofs.YtepjpdhmjchakaaGreatDoor
open Go.RowKit Bt
namespace Gz

/-- A sample. -/
structure Smp where
  t : Int
  v : Nat
/-- How many noughts a number begins with, at most 31; how many it ends with. -/
def lz (x : Nat) : Nat := min 31 (63 - Nat.log2 x)
def tz (x : Nat) : Nat := Lib.ctz 64 x
/-- The bits of a change of a number, and the window behind them. -/
def numE (win : Option (Nat × Nat)) (x : Nat) : List Bool × Option (Nat × Nat) :=
  if x = 0 then ([false], win) else
  match win with
  | some (a, b) => if a ≤ lz x ∧ b ≤ tz x then ([true, false] ++ nb (x / 2 ^ b) (64 - a - b), win) else ([true, true] ++ nb (lz x) 5 ++ nb (63 - lz x - tz x) 6 ++ nb (x / 2 ^ tz x) (64 - lz x - tz x), some (lz x, tz x))
  | none => ([true, true] ++ nb (lz x) 5 ++ nb (63 - lz x - tz x) 6 ++ nb (x / 2 ^ tz x) (64 - lz x - tz x), some (lz x, tz x))
/-- The bits of a step. -/
def timE (n : Nat) (d : Int) (step : Nat) : List Bool :=
  if n = 1 then vb step else if d = 0 then [false] else if -63 ≤ d ∧ d ≤ 64 then nb 2 2 ++ nb (d + 63).toNat 7 else if -255 ≤ d ∧ d ≤ 256 then nb 6 3 ++ nb (d + 255).toNat 9
  else if -2047 ≤ d ∧ d ≤ 2048 then nb 14 4 ++ nb (d + 2047).toNat 12 else nb 15 4 ++ nb (d % 18446744073709551616).toNat 64
/-- An appender. -/
structure Ap where
  L : List Bool
  first : Int
  t : Int
  v : Nat
  step : Nat
  n : Nat
  win : Option (Nat × Nat)
def Ap.new : Ap := ⟨[], 0, 0, 0, 0, 0, none⟩
def Ap.add (a : Ap) (s : Smp) : Ap :=
  if a.n = 0 then { a with L := a.L ++ vb (zz s.t) ++ nb s.v 64, first := s.t, t := s.t, v := s.v, n := 1 }
  else { a with L := a.L ++ timE a.n ((s.t - a.t) - a.step) (s.t - a.t).toNat ++ (numE a.win (s.v ^^^ a.v)).1, t := s.t, v := s.v, step := (s.t - a.t).toNat, n := a.n + 1, win := (numE a.win (s.v ^^^ a.v)).2 }
def far : Int := 9007199254740992
def Ap.app (a : Ap) (s : Smp) : Ap × Int :=
  if s.t < -far ∨ far < s.t then (a, 2) else if 0 < a.n ∧ s.t ≤ a.t then (a, 100) else if a.n = 120 then (a, 102) else (a.add s, 0)
/-- What holds of an appender behind some calls. -/
structure Ap.ok (a : Ap) : Prop where
  n : a.n ≤ 120
  t : -far ≤ a.t ∧ a.t ≤ far
  v : a.v < 18446744073709551616
  step : a.step ≤ 18014398509481984
  zero : a.n = 0 → a.step = 0 ∧ a.win = none ∧ a.L = []
  one : a.n = 1 → a.step = 0 ∧ a.win = none
  win : ∀ p q, a.win = some (p, q) → p ≤ 31 ∧ p + q ≤ 63
  len : a.L.length ≤ 200 * a.n

theorem lz_le (x : Nat) : lz x ≤ 31 := Nat.min_le_left _ _
theorem tz_spec (x : Nat) (h0 : x ≠ 0) (h : x < 18446744073709551616) : ∃ m, x = 2 ^ tz x * (2 * m + 1) ∧ tz x < 64 := by
  obtain ⟨m, hm, hk⟩ := Lib.ctzFrom_spec 64 x (by omega) (by simpa using h)
  have e : tz x = Lib.ctzFrom 64 x := by simp [tz, Lib.ctz, h0]
  rw [e]
  exact ⟨m, hm, hk⟩
theorem log_lt (x : Nat) (h0 : x ≠ 0) (h : x < 18446744073709551616) : Nat.log2 x ≤ 63 ∧ x < 2 ^ (Nat.log2 x + 1) := by
  refine ⟨?_, Nat.lt_log2_self⟩
  have := (Nat.log2_lt h0 (k := 64)).2 (by simpa using h)
  omega
theorem lz_lt (x : Nat) (h0 : x ≠ 0) (h : x < 18446744073709551616) : x < 2 ^ (64 - lz x) := by
  obtain ⟨h1, h2⟩ := log_lt x h0 h
  refine Nat.lt_of_lt_of_le h2 (Nat.pow_le_pow_right (by decide) ?_)
  unfold lz
  omega
theorem both_le (x : Nat) (h0 : x ≠ 0) (h : x < 18446744073709551616) : lz x + tz x ≤ 63 := by
  obtain ⟨m, hm, hk⟩ := tz_spec x h0 h
  have h1 := lz_lt x h0 h
  have h2 : 2 ^ tz x ≤ x := Nat.le_of_dvd (by omega) ⟨2 * m + 1, hm⟩
  have h3 : 2 ^ tz x < 2 ^ (64 - lz x) := Nat.lt_of_le_of_lt h2 h1
  have h4 := (Nat.pow_lt_pow_iff_right (by decide : 1 < 2)).1 h3
  have := lz_le x
  omega
/-- Within a window that fits. -/
theorem fit_lt (x a b : Nat) (h0 : x ≠ 0) (h : x < 18446744073709551616) (ha : a ≤ lz x) (hb : b ≤ tz x) : x / 2 ^ b < 2 ^ (64 - a - b) ∧ x / 2 ^ b * 2 ^ b = x := by
  obtain ⟨m, hm, hk⟩ := tz_spec x h0 h
  have h1 := lz_lt x h0 h
  have hs := both_le x h0 h
  have h2 : x < 2 ^ (64 - a) := Nat.lt_of_lt_of_le h1 (Nat.pow_le_pow_right (by decide) (by omega))
  refine ⟨?_, Nat.div_mul_cancel ?_⟩
  · rw [Nat.div_lt_iff_lt_mul (Nat.two_pow_pos _), ← Nat.pow_add]
    have e : 64 - a - b + b = 64 - a := by omega
    rw [e]
    exact h2
  · rw [hm]
    exact Nat.dvd_trans (Nat.pow_dvd_pow 2 hb) (Nat.dvd_mul_right _ _)

/-- The list U has the piece P from place a on. -/
def Has (U : List Bool) (a : Nat) (P : List Bool) : Prop := (U.drop a).take P.length = P ∧ a + P.length ≤ U.length
theorem Has.app {U : List Bool} {a : Nat} {P Q : List Bool} (h : Has U a (P ++ Q)) : Has U a P ∧ Has U (a + P.length) Q := by
  obtain ⟨h1, h2⟩ := h
  rw [List.length_append] at h1 h2
  refine ⟨⟨?_, by omega⟩, ?_, by omega⟩
  · have := congrArg (List.take P.length) h1
    rw [List.take_take, Nat.min_eq_left (by omega), List.take_left'] at this
    · exact this
    · rfl
  · have := congrArg (List.drop P.length) h1
    rw [List.drop_take, List.drop_drop, List.drop_left' rfl, Nat.add_sub_cancel_left] at this
    exact this
theorem Has.start (P C : List Bool) : Has (P ++ C) 0 P := by
  refine ⟨by simp, by simp⟩
/-- The next k bits, as a number. -/
def rdk (U : List Bool) (a k : Nat) : Option (Nat × Nat) := if U.length < a + k then none else some (val ((U.drop a).take k), a + k)
theorem rdk_has {U : List Bool} {a v k : Nat} (h : Has U a (nb v k)) (hv : v < 2 ^ k) : rdk U a k = some (v, a + k) := by
  obtain ⟨h1, h2⟩ := h
  rw [nb_len] at h1 h2
  unfold rdk
  rw [if_neg (by omega), h1, val_nb, Nat.mod_eq_of_lt hv]
theorem rdk_bit {U : List Bool} {a : Nat} {b : Bool} (h : Has U a [b]) : rdk U a 1 = some (b.toNat, a + 1) := by
  obtain ⟨h1, h2⟩ := h
  unfold rdk
  simp only [List.length_singleton] at h1 h2
  rw [if_neg (by omega), h1]
  cases b <;> rfl
theorem rv_has {U : List Bool} {a v : Nat} (h : Has U a (vb v)) (hv : v < 18446744073709551616) : rv U a = .inr (v, a + (vb v).length) := by
  obtain ⟨h1, h2⟩ := h
  have e : U = U.take a ++ vb v ++ U.drop (a + (vb v).length) := by
    rw [← h1]
    simp only [List.length_take, List.length_drop]
    rw [List.append_assoc, show min (vb v).length (U.length - a) = (vb v).length by omega, ← List.drop_drop, List.take_append_drop, List.take_append_drop]
  have h3 := rv_back (U.take a) (U.drop (a + (vb v).length)) v hv
  rw [← e, List.length_take, Nat.min_eq_left (by omega)] at h3
  exact h3

/-- The next change of steps (as a number below 2^64). -/
def chgD (U : List Bool) (a : Nat) : Option (Nat × Nat) :=
  (rdk U a 1).bind fun p0 => if p0.1 = 0 then some (0, p0.2) else
  (rdk U p0.2 1).bind fun p1 => if p1.1 = 0 then (rdk U p1.2 7).map fun q => ((q.1 + 18446744073709551553) % 18446744073709551616, q.2) else
  (rdk U p1.2 1).bind fun p2 => if p2.1 = 0 then (rdk U p2.2 9).map fun q => ((q.1 + 18446744073709551361) % 18446744073709551616, q.2) else
  (rdk U p2.2 1).bind fun p3 => if p3.1 = 0 then (rdk U p3.2 12).map fun q => ((q.1 + 18446744073709549569) % 18446744073709551616, q.2) else
  rdk U p3.2 64
/-- The bits that the next number has changed, the window behind them. -/
def numD (U : List Bool) (win : Nat × Nat) (a : Nat) : Option (Nat × (Nat × Nat) × Nat) :=
  (rdk U a 1).bind fun p0 => if p0.1 = 0 then some (0, win, p0.2) else
  (rdk U p0.2 1).bind fun p1 => if p1.1 = 0 then (rdk U p1.2 (64 - win.1 - win.2)).map fun q => (q.1 * 2 ^ win.2 % 18446744073709551616, win, q.2) else
  (rdk U p1.2 5).bind fun l => (rdk U l.2 6).bind fun m => if 63 < l.1 + m.1 then none else
  (rdk U m.2 (64 - l.1 - (63 - l.1 - m.1))).map fun q => (q.1 * 2 ^ (63 - l.1 - m.1) % 18446744073709551616, (l.1, 63 - l.1 - m.1), q.2)
/-- A reader behind some samples. -/
structure Ds where
  at_ : Nat
  t : Int
  v : Nat
  step : Nat
  win : Nat × Nat
def first (U : List Bool) : Option (Ds × List Smp) :=
  match rv U 0 with
  | .inl _ => none
  | .inr (x, a) => (rdk U a 64).map fun q => (⟨q.2, un x, q.1, 0, (0, 0)⟩, [⟨un x, q.1⟩])
/-- The step of the next sample. -/
def stepD (U : List Bool) (k : Nat) (s : Ds) : Option (Nat × Nat) :=
  if k = 1 then (match rv U s.at_ with | .inl _ => none | .inr p => some p) else (chgD U s.at_).map fun p => ((s.step + p.1) % 18446744073709551616, p.2)
def next (U : List Bool) (k : Nat) (s : Ds) : Option Ds :=
  (stepD U k s).bind fun p => (numD U s.win p.2).map fun q => ⟨q.2.2, wrap64 (s.t + p.1), s.v ^^^ q.1, p.1, q.2.1⟩
/-- The first k + 1 samples. -/
def decN (U : List Bool) : Nat → Option (Ds × List Smp)
  | 0 => first U
  | k + 1 => (decN U k).bind fun p => (next U (k + 1) p.1).map fun s => (s, p.2 ++ [⟨s.t, s.v⟩])

theorem rdk_bits {U : List Bool} {a : Nat} {b : Bool} {P : List Bool} (h : Has U a (b :: P)) : rdk U a 1 = some (b.toNat, a + 1) ∧ Has U (a + 1) P := by
  have h' : Has U a ([b] ++ P) := h
  obtain ⟨h1, h2⟩ := h'.app
  exact ⟨rdk_bit h1, h2⟩
theorem chg_has {U : List Bool} {a n step : Nat} {d : Int} (hn : n ≠ 1) (hd : -9223372036854775808 < d ∧ d < 9223372036854775808) (h : Has U a (timE n d step)) : chgD U a = some ((d % 18446744073709551616).toNat, a + (timE n d step).length) := by
  unfold timE at h ⊢
  rw [if_neg hn] at h ⊢
  have e2 : nb 2 2 = [true, false] := by decide
  have e6 : nb 6 3 = [true, true, false] := by decide
  have e14 : nb 14 4 = [true, true, true, false] := by decide
  have e15 : nb 15 4 = [true, true, true, true] := by decide
  by_cases h0 : d = 0
  · rw [if_pos h0] at h ⊢
    subst h0
    have h1 := rdk_bit h
    unfold chgD
    rw [h1]
    rfl
  · rw [if_neg h0] at h ⊢
    by_cases c1 : -63 ≤ d ∧ d ≤ 64
    · rw [if_pos c1, e2] at h ⊢
      obtain ⟨q1, h⟩ := rdk_bits h
      obtain ⟨q2, h⟩ := rdk_bits h
      have q3 := rdk_has (v := (d + 63).toNat) h (by omega)
      unfold chgD
      rw [q1]
      simp only [Option.bind_some, Bool.toNat_true, if_neg (show ¬ (1 = 0) by decide)]
      rw [q2]
      simp only [Option.bind_some, Bool.toNat_false, if_true]
      rw [q3]
      simp only [Option.map_some, Option.some.injEq, Prod.mk.injEq]
      refine ⟨by omega, ?_⟩
      simp [nb_len]
    · rw [if_neg c1] at h ⊢
      by_cases c2 : -255 ≤ d ∧ d ≤ 256
      · rw [if_pos c2, e6] at h ⊢
        obtain ⟨q1, h⟩ := rdk_bits h
        obtain ⟨q2, h⟩ := rdk_bits h
        obtain ⟨q3, h⟩ := rdk_bits h
        have q4 := rdk_has (v := (d + 255).toNat) h (by omega)
        unfold chgD
        rw [q1]
        simp only [Option.bind_some, Bool.toNat_true, if_neg (show ¬ (1 = 0) by decide)]
        rw [q2]
        simp only [Option.bind_some, Bool.toNat_true, if_neg (show ¬ (1 = 0) by decide)]
        rw [q3]
        simp only [Option.bind_some, Bool.toNat_false, if_true]
        rw [q4]
        simp only [Option.map_some, Option.some.injEq, Prod.mk.injEq]
        refine ⟨by omega, ?_⟩
        simp [nb_len]
      · rw [if_neg c2] at h ⊢
        by_cases c3 : -2047 ≤ d ∧ d ≤ 2048
        · rw [if_pos c3, e14] at h ⊢
          obtain ⟨q1, h⟩ := rdk_bits h
          obtain ⟨q2, h⟩ := rdk_bits h
          obtain ⟨q3, h⟩ := rdk_bits h
          obtain ⟨q4, h⟩ := rdk_bits h
          have q5 := rdk_has (v := (d + 2047).toNat) h (by omega)
          unfold chgD
          rw [q1]
          simp only [Option.bind_some, Bool.toNat_true, if_neg (show ¬ (1 = 0) by decide)]
          rw [q2]
          simp only [Option.bind_some, Bool.toNat_true, if_neg (show ¬ (1 = 0) by decide)]
          rw [q3]
          simp only [Option.bind_some, Bool.toNat_true, if_neg (show ¬ (1 = 0) by decide)]
          rw [q4]
          simp only [Option.bind_some, Bool.toNat_false, if_true]
          rw [q5]
          simp only [Option.map_some, Option.some.injEq, Prod.mk.injEq]
          refine ⟨by omega, ?_⟩
          simp [nb_len]
        · rw [if_neg c3, e15] at h ⊢
          obtain ⟨q1, h⟩ := rdk_bits h
          obtain ⟨q2, h⟩ := rdk_bits h
          obtain ⟨q3, h⟩ := rdk_bits h
          obtain ⟨q4, h⟩ := rdk_bits h
          have q5 := rdk_has (v := (d % 18446744073709551616).toNat) h (by omega)
          unfold chgD
          rw [q1]
          simp only [Option.bind_some, Bool.toNat_true, if_neg (show ¬ (1 = 0) by decide)]
          rw [q2]
          simp only [Option.bind_some, Bool.toNat_true, if_neg (show ¬ (1 = 0) by decide)]
          rw [q3]
          simp only [Option.bind_some, Bool.toNat_true, if_neg (show ¬ (1 = 0) by decide)]
          rw [q4]
          simp only [Option.bind_some, Bool.toNat_true, if_neg (show ¬ (1 = 0) by decide)]
          rw [q5]
          simp [nb_len]

/-- The reader's window, where the appender has one. -/
def Wn (win : Option (Nat × Nat)) (w : Nat × Nat) : Prop := ∀ p, win = some p → p = w
/-- A new window. -/
def newE (x : Nat) : List Bool := [true, true] ++ nb (lz x) 5 ++ nb (63 - lz x - tz x) 6 ++ nb (x / 2 ^ tz x) (64 - lz x - tz x)
theorem new_has {U : List Bool} {a x : Nat} {w : Nat × Nat} (h0 : x ≠ 0) (hx : x < 18446744073709551616) (h : Has U a (newE x)) : numD U w a = some (x, (lz x, tz x), a + (newE x).length) := by
  have hs := both_le x h0 hx
  have hl := lz_le x
  obtain ⟨hf, hc⟩ := fit_lt x (lz x) (tz x) h0 hx (Nat.le_refl _) (Nat.le_refl _)
  unfold newE at h ⊢
  obtain ⟨h, p4⟩ := h.app
  obtain ⟨h, p3⟩ := h.app
  obtain ⟨h, p2⟩ := h.app
  obtain ⟨q1, h⟩ := rdk_bits h
  have q2 := rdk_bit h
  have p2 : Has U (a + 1 + 1) (nb (lz x) 5) := p2
  have p3 : Has U (a + 1 + 1 + 5) (nb (63 - lz x - tz x) 6) := by
    simpa [nb_len, Nat.add_assoc] using p3
  have p4 : Has U (a + 1 + 1 + 5 + 6) (nb (x / 2 ^ tz x) (64 - lz x - tz x)) := by
    simpa [nb_len, Nat.add_assoc] using p4
  have q3 := rdk_has p2 (by omega)
  have q4 := rdk_has p3 (by omega)
  have q5 := rdk_has p4 hf
  have er : 63 - lz x - (63 - lz x - tz x) = tz x := by omega
  unfold numD
  rw [q1]
  simp only [Option.bind_some, Bool.toNat_true, if_neg (show ¬ (1 = 0) by decide)]
  rw [q2]
  simp only [Option.bind_some, Bool.toNat_true, if_neg (show ¬ (1 = 0) by decide)]
  rw [q3]
  simp only [Option.bind_some]
  rw [q4]
  simp only [Option.bind_some]
  rw [if_neg (by omega), er, q5]
  simp only [Option.map_some, Option.some.injEq, Prod.mk.injEq]
  rw [hc, Nat.mod_eq_of_lt hx]
  refine ⟨by trivial, by trivial, ?_⟩
  simp [nb_len]
  omega
theorem num_has {U : List Bool} {a x : Nat} {win : Option (Nat × Nat)} {w : Nat × Nat} (hx : x < 18446744073709551616) (hw : Wn win w) (h : Has U a (numE win x).1) : ∃ w', numD U w a = some (x, w', a + (numE win x).1.length) ∧ Wn (numE win x).2 w' := by
  unfold numE at h ⊢
  by_cases h0 : x = 0
  · rw [if_pos h0] at h ⊢
    subst h0
    have q1 := rdk_bit h
    refine ⟨w, ?_, hw⟩
    unfold numD
    rw [q1]
    rfl
  · rw [if_neg h0] at h ⊢
    cases win with
    | none => exact ⟨_, new_has h0 hx h, fun p hp => by injection hp with hp; exact hp.symm⟩
    | some p =>
      obtain ⟨c, b⟩ := p
      dsimp only at h ⊢
      by_cases hf : c ≤ lz x ∧ b ≤ tz x
      · rw [if_pos hf] at h ⊢
        obtain rfl : (c, b) = w := hw _ rfl
        obtain ⟨f1, f2⟩ := fit_lt x c b h0 hx hf.1 hf.2
        obtain ⟨h, p2⟩ := h.app
        obtain ⟨q1, h⟩ := rdk_bits h
        have q2 := rdk_bit h
        have p2 : Has U (a + 1 + 1) (nb (x / 2 ^ b) (64 - c - b)) := p2
        have q3 := rdk_has p2 f1
        refine ⟨(c, b), ?_, fun p hp => by injection hp with hp; exact hp.symm⟩
        unfold numD
        rw [q1]
        simp only [Option.bind_some, Bool.toNat_true, if_neg (show ¬ (1 = 0) by decide)]
        rw [q2]
        simp only [Option.bind_some, Bool.toNat_false, if_true]
        rw [q3]
        simp only [Option.map_some, Option.some.injEq, Prod.mk.injEq]
        rw [f2, Nat.mod_eq_of_lt hx]
        refine ⟨rfl, trivial, ?_⟩
        simp [nb_len]
        omega
      · rw [if_neg hf] at h ⊢
        exact ⟨_, new_has h0 hx h, fun p hp => by injection hp with hp; exact hp.symm⟩

/-- Times in bounds lie so near that nothing wraps. -/
theorem wrap_near (t s : Int) (hs : -far ≤ s ∧ s ≤ far) (h : t < s) : wrap64 (t + ((s - t).toNat : Nat)) = s := by
  unfold far at hs
  unfold wrap64
  omega
/-- The reader is where the appender was. -/
structure Met (a : Ap) (d : Ds) : Prop where
  at_ : d.at_ = a.L.length
  t : d.t = a.t
  v : d.v = a.v
  step : d.step = a.step
  win : Wn a.win d.win
theorem xor_lt {a b : Nat} (ha : a < 18446744073709551616) (hb : b < 18446744073709551616) : a ^^^ b < 18446744073709551616 := Nat.xor_lt_two_pow (n := 64) ha hb
theorem xor_back (a b : Nat) : a ^^^ (b ^^^ a) = b := by rw [Nat.xor_comm b a, ← Nat.xor_assoc, Nat.xor_self, Nat.zero_xor]
theorem next_has {U : List Bool} {a : Ap} {s : Smp} {d : Ds} (hok : a.ok) (hn : a.n ≠ 0) (hs : -far ≤ s.t ∧ s.t ≤ far) (hlt : a.t < s.t) (hv : s.v < 18446744073709551616) (hm : Met a d)
    (h : Has U 0 (a.add s).L) : ∃ d', next U a.n d = some d' ∧ Met (a.add s) d' := by
  have ht := hok.t
  have hst := hok.step
  unfold Ap.add at h ⊢
  rw [if_neg hn] at h ⊢
  dsimp only at h ⊢
  obtain ⟨h, p2⟩ := h.app
  obtain ⟨-, p1⟩ := h.app
  rw [Nat.zero_add] at p1 p2
  rw [List.length_append] at p2
  generalize hstep : (s.t - a.t).toNat = step at *
  have hsl : step < 18446744073709551616 := by unfold far at ht hs; omega
  have hsp : stepD U a.n d = some (step, a.L.length + (timE a.n ((s.t - a.t) - a.step) step).length) := by
    unfold stepD
    by_cases h1 : a.n = 1
    · rw [if_pos h1, hm.at_]
      unfold timE at p1 ⊢
      rw [if_pos h1] at p1 ⊢
      rw [rv_has p1 hsl]
    · rw [if_neg h1, hm.at_, chg_has h1 (by unfold far at ht hs; omega) p1, hm.step]
      simp only [Option.map_some, Option.some.injEq, Prod.mk.injEq, and_true]
      unfold far at ht hs
      omega
  obtain ⟨w', q1, q2⟩ := num_has (xor_lt hv hok.v) hm.win p2
  unfold next
  rw [hsp]
  simp only [Option.bind_some]
  rw [q1]
  refine ⟨_, rfl, ?_, ?_, ?_, rfl, q2⟩
  · simp only [List.length_append]
  · dsimp only
    rw [hm.t, ← hstep]
    exact wrap_near _ _ hs hlt
  · dsimp only
    rw [hm.v]
    exact xor_back _ _
theorem first_has {U : List Bool} {s : Smp} (hs : -far ≤ s.t ∧ s.t ≤ far) (hv : s.v < 18446744073709551616) (h : Has U 0 (Ap.new.add s).L) : ∃ d, first U = some (d, [s]) ∧ Met (Ap.new.add s) d := by
  unfold Ap.add Ap.new at h ⊢
  simp only [if_true, List.nil_append] at h ⊢
  obtain ⟨p1, p2⟩ := h.app
  rw [Nat.zero_add] at p2
  have q1 := rv_has p1 (zz_lt _ (by unfold far at hs; omega) (by unfold far at hs; omega))
  rw [Nat.zero_add] at q1
  have q2 := rdk_has p2 (by simpa using hv)
  unfold first
  rw [q1]
  dsimp only
  rw [q2]
  exact ⟨⟨(vb (zz s.t)).length + 64, s.t, s.v, 0, (0, 0)⟩, by simp only [Option.map_some, un_zz], ⟨by simp [nb_len], rfl, rfl, rfl, fun p hp => by cases hp⟩⟩
/-- Samples, laid one behind the other. -/
def Ap.all (l : List Smp) : Ap := l.foldl Ap.add Ap.new
theorem Ap.all_snoc (l : List Smp) (s : Smp) : Ap.all (l ++ [s]) = (Ap.all l).add s := by simp [Ap.all]
/-- Samples that may be laid: in bounds, rising. -/
structure Fine (l : List Smp) : Prop where
  far : ∀ s ∈ l, -far ≤ s.t ∧ s.t ≤ far ∧ s.v < 18446744073709551616
  rise : ∀ (i : Nat) (a b : Smp), l[i]? = some a → l[i + 1]? = some b → a.t < b.t
  len : l.length ≤ 120

theorem timE_len (n : Nat) (d : Int) (step : Nat) (h : step < 18446744073709551616) : (timE n d step).length ≤ 80 := by
  unfold timE
  have := (vb_le step h).1
  split
  · omega
  · repeat' split
    all_goals simp [nb_len]
theorem numE_len (win : Option (Nat × Nat)) (x : Nat) : (numE win x).1.length ≤ 80 := by
  unfold numE
  split
  · simp
  · split
    · split
      · simp [nb_len]; omega
      · simp [nb_len]; omega
    · simp [nb_len]; omega
theorem numE_win (win : Option (Nat × Nat)) (x : Nat) (hx : x < 18446744073709551616) (h : ∀ p q, win = some (p, q) → p ≤ 31 ∧ p + q ≤ 63) : ∀ p q, (numE win x).2 = some (p, q) → p ≤ 31 ∧ p + q ≤ 63 := by
  intro p q hp
  unfold numE at hp
  by_cases h0 : x = 0
  · rw [if_pos h0] at hp; exact h p q hp
  · rw [if_neg h0] at hp
    have hb := both_le x h0 hx
    have hl := lz_le x
    cases win with
    | none => injection hp with hp; injection hp with h1 h2; omega
    | some w =>
      dsimp only at hp
      split at hp
      · exact h p q hp
      · injection hp with hp; injection hp with h1 h2; omega
theorem Ap.new_ok : Ap.new.ok := ⟨by decide, by decide, by decide, by decide, fun _ => ⟨rfl, rfl, rfl⟩, (fun h => (by cases h)), (fun p q h => (by cases h)), by decide⟩
theorem add_n (a : Ap) (s : Smp) : (a.add s).n = a.n + 1 := by
  unfold Ap.add
  split
  · rename_i h; simp [h]
  · rfl
theorem add_t (a : Ap) (s : Smp) : (a.add s).t = s.t := by unfold Ap.add; split <;> rfl
theorem add_v (a : Ap) (s : Smp) : (a.add s).v = s.v := by unfold Ap.add; split <;> rfl
theorem add_ok {a : Ap} {s : Smp} (h : a.ok) (hn : a.n < 120) (hs : -far ≤ s.t ∧ s.t ≤ far) (hv : s.v < 18446744073709551616) : (a.add s).ok := by
  have ht := h.t
  have hl := h.len
  have hstep : (s.t - a.t).toNat ≤ 18014398509481984 := by unfold far at hs ht; omega
  unfold Ap.add
  by_cases h0 : a.n = 0
  · rw [if_pos h0]
    obtain ⟨z1, z2, z3⟩ := h.zero h0
    refine ⟨by simp, hs, hv, by simp only [z1]; omega, (fun e => (by simp at e)), fun _ => ⟨z1, z2⟩, (by simp only [z2]; intro p q e; cases e), ?_⟩
    have := (vb_le _ (zz_lt s.t (by unfold far at hs; omega) (by unfold far at hs; omega))).1
    simp [z3, nb_len]
    omega
  · rw [if_neg h0]
    refine ⟨by simp only; omega, hs, hv, hstep, (fun e => (by simp at e)), (fun e => (by simp only at e; omega)), numE_win _ _ (xor_lt hv h.v) h.win, ?_⟩
    have h1 := timE_len a.n ((s.t - a.t) - a.step) (s.t - a.t).toNat (by omega)
    have h2 := numE_len a.win (s.v ^^^ a.v)
    simp only [List.length_append]
    omega
theorem add_pre (a : Ap) (s : Smp) : ∃ C, (a.add s).L = a.L ++ C := by
  unfold Ap.add
  split
  · exact ⟨_, List.append_assoc _ _ _⟩
  · exact ⟨_, List.append_assoc _ _ _⟩
theorem Fine.snoc {l : List Smp} {s : Smp} (h : Fine (l ++ [s])) : Fine l := by
  refine ⟨fun x hx => h.far x (by simp [hx]), fun i a b ha hb => ?_, by have := h.len; simp at this; omega⟩
  have h1 := (List.getElem?_eq_some_iff.1 ha).1
  have h2 := (List.getElem?_eq_some_iff.1 hb).1
  exact h.rise i a b (by rw [List.getElem?_append_left h1]; exact ha) (by rw [List.getElem?_append_left h2]; exact hb)
theorem snoc_ex {α : Type} (l : List α) (h : l ≠ []) : ∃ l' b, l = l' ++ [b] := ⟨l.dropLast, l.getLast h, (List.dropLast_concat_getLast h).symm⟩
/-- Behind fine samples. -/
theorem all_has : ∀ (n : Nat) (l : List Smp), l.length = n → Fine l → (Ap.all l).ok ∧ (Ap.all l).n = l.length ∧ (∀ s, l.getLast? = some s → (Ap.all l).t = s.t ∧ (Ap.all l).v = s.v)
  | 0, l, hl, _ => by
    obtain rfl := List.eq_nil_of_length_eq_zero hl
    exact ⟨Ap.new_ok, rfl, fun s hs => by simp at hs⟩
  | n + 1, l, hl, hf => by
    obtain ⟨l, s, rfl⟩ := snoc_ex l (by intro e; subst e; simp at hl)
    simp at hl
    obtain ⟨i1, i2, _⟩ := all_has n l hl hf.snoc
    have hs := hf.far s (by simp)
    rw [Ap.all_snoc]
    refine ⟨add_ok i1 (by have := hf.len; simp at this; omega) ⟨hs.1, hs.2.1⟩ hs.2.2, by rw [add_n, i2]; simp, fun x hx => ?_⟩
    simp at hx
    subst hx
    exact ⟨add_t _ _, add_v _ _⟩
theorem all_n {l : List Smp} (h : Fine l) : (Ap.all l).n = l.length := (all_has _ l rfl h).2.1
theorem all_ok {l : List Smp} (h : Fine l) : (Ap.all l).ok := (all_has _ l rfl h).1
/-- What was laid is found. -/
theorem dec_has (U : List Bool) : ∀ (n : Nat) (l : List Smp), l.length = n + 1 → Fine l → Has U 0 (Ap.all l).L → ∃ d, decN U n = some (d, l) ∧ Met (Ap.all l) d
  | 0, l, hl, hf, h => by
    obtain ⟨l, s, rfl⟩ := snoc_ex l (by intro e; subst e; simp at hl)
    simp at hl
    subst hl
    have hs := hf.far s (by simp)
    rw [Ap.all_snoc] at h ⊢
    exact first_has ⟨hs.1, hs.2.1⟩ hs.2.2 h
  | n + 1, l, hl, hf, h => by
    obtain ⟨l, s, rfl⟩ := snoc_ex l (by intro e; subst e; simp at hl)
    simp at hl
    have hs := hf.far s (by simp)
    rw [Ap.all_snoc] at h ⊢
    obtain ⟨C, hC⟩ := add_pre (Ap.all l) s
    have h0 : Has U 0 (Ap.all l).L := by rw [hC] at h; exact h.app.1
    obtain ⟨d, d1, d2⟩ := dec_has U n l hl hf.snoc h0
    obtain ⟨i1, i2, i3⟩ := all_has _ l rfl hf.snoc
    obtain ⟨l', b, rfl⟩ := snoc_ex l (by intro e; subst e; simp at hl)
    have hr : b.t < s.t := hf.rise l'.length b s (by simp) (by simp)
    have ht := (i3 b (by simp)).1
    rw [← ht] at hr
    obtain ⟨d', e1, e2⟩ := next_has i1 (by rw [i2]; simp) ⟨hs.1, hs.2.1⟩ hr hs.2.2 d2 h
    rw [i2, hl] at e1
    refine ⟨d', ?_, e2⟩
    unfold decN
    rw [d1]
    simp only [Option.bind_some]
    rw [e1]
    simp only [Option.map_some, Option.some.injEq, Prod.mk.injEq, true_and]
    rw [e2.t, e2.v, add_t, add_v]
/-- Unlike samples have unlike bytes. -/
theorem all_inj {l m : List Smp} (hl : Fine l) (hm : Fine m) (hn : l.length = m.length) (h : pack (Ap.all l).L = pack (Ap.all m).L) : l = m := by
  cases hc : l.length with
  | zero =>
    have h1 := List.eq_nil_of_length_eq_zero hc
    have h2 := List.eq_nil_of_length_eq_zero (show m.length = 0 by omega)
    rw [h1, h2]
  | succ n =>
    obtain ⟨d, e1, _⟩ := dec_has (unpack (pack (Ap.all l).L)) n l hc hl (by rw [unpack_pack]; exact Has.start _ _)
    obtain ⟨d', e2, _⟩ := dec_has (unpack (pack (Ap.all l).L)) n m (by omega) hm (by rw [h, unpack_pack]; exact Has.start _ _)
    rw [e1] at e2
    injection e2 with e2
    injection e2
end Gz
end Go.Proofs.YtepjpdhmjchakaaGreatDoor
