/- Numbers in groups of seven: what is read is what is put. Plain Lean. -/
import Derived.Test.YtepjpdhmjchakaaDoorVarPlain
import Derived.Test.YtepjpdhmjchakaaDoorWriter2
namespace Go.Proofs.YtepjpdhmjchakaaDoor.Bt

theorem group8 (U : List Bool) (a : Nat) (h : ¬ U.length < a + 8) : nb (val ((U.drop a).take 8)) 8 = (U.drop a).take 8 := by
  have hl : ((U.drop a).take 8).length = 8 := by rw [List.length_take, List.length_drop]; omega
  have := nb_val ((U.drop a).take 8)
  rwa [hl] at this
theorem group8_lt (U : List Bool) (a : Nat) : val ((U.drop a).take 8) < 256 := by
  have h1 := val_lt ((U.drop a).take 8)
  have h2 : ((U.drop a).take 8).length ≤ 8 := List.length_take_le _ _
  have h3 : 2 ^ ((U.drop a).take 8).length ≤ 2 ^ 8 := Nat.pow_le_pow_right (by omega) h2
  omega

theorem pow64 (i : Nat) (h : i < 9) : 2 ^ (64 - 7 * i) = 128 * 2 ^ (64 - 7 * (i + 1)) := by
  rw [show 64 - 7 * i = 7 + (64 - 7 * (i + 1)) from by omega, Nat.pow_add]

theorem rvg_ok (U : List Bool) (f : Nat) : ∀ i a acc x a', i + f = 10 → rvg U f i a acc = .inr (x, a') →
    ∃ y, x = acc + y * 128 ^ i ∧ y < 2 ^ (64 - 7 * i) ∧ a + 8 ≤ a' ∧ a' ≤ U.length ∧ (U.drop a).take (a' - a) = vbf f y ∧ (0 < i → 0 < y) ∧ (a' - a) % 8 = 0 := by
  induction f with
  | zero => intro i a acc x a' _ h; simp [rvg] at h
  | succ f ih =>
    intro i a acc x a' hi h
    rw [rvg] at h
    by_cases h1 : U.length < a + 8
    · rw [if_pos h1] at h; cases h
    rw [if_neg h1] at h
    have hg := group8 U a h1
    have hgl := group8_lt U a
    generalize hG : val ((U.drop a).take 8) = G at *
    by_cases h2 : i = 9 ∧ 1 < G
    · rw [if_pos h2] at h; cases h
    rw [if_neg h2] at h
    by_cases h3 : G < 128
    · rw [if_pos h3] at h
      by_cases h4 : 0 < i ∧ G = 0
      · rw [if_pos h4] at h; cases h
      rw [if_neg h4] at h
      injection h with h
      injection h with h5 h6
      subst h6
      refine ⟨G, by rw [← h5, Nat.mod_eq_of_lt h3], ?_, by omega, by omega, ?_, by omega, by omega⟩
      · by_cases h9 : i < 9
        · have : 2 ^ 8 ≤ 2 ^ (64 - 7 * i) := Nat.pow_le_pow_right (by omega) (by omega)
          omega
        · have : i = 9 := by omega
          subst this
          have : G ≤ 1 := by omega
          omega
      · rw [show a + 8 - a = 8 from by omega, ← hg, vbf, if_neg (by omega)]
    · rw [if_neg h3] at h
      have h9 : i < 9 := by omega
      obtain ⟨y, e1, e2, e3, e4, e5, e6, e7⟩ := ih (i + 1) (a + 8) _ x a' (by omega) h
      have hy := e6 (by omega)
      refine ⟨G % 128 + 128 * y, ?_, ?_, by omega, e4, ?_, by omega, by omega⟩
      · rw [e1, Nat.add_mul, Nat.pow_succ, Nat.mul_right_comm, Nat.add_assoc]; congr 2; rw [Nat.mul_comm y, Nat.mul_comm (128 ^ i), Nat.mul_right_comm, Nat.mul_comm]
      · rw [pow64 i h9]; omega
      · rw [show a' - a = 8 + (a' - (a + 8)) from by omega, List.take_add, ← hg, List.drop_drop, e5, vbf, if_pos (by omega)]
        congr 2
        · congr 1; omega
        · congr 1; omega

theorem rvg_back (C : List Bool) (f : Nat) : ∀ (A : List Bool) i y acc, i + f = 10 → y < 2 ^ (64 - 7 * i) → (0 < i → 0 < y) →
    rvg (A ++ vbf f y ++ C) f i A.length acc = .inr (acc + y * 128 ^ i, A.length + (vbf f y).length) := by
  induction f with
  | zero =>
    intro A i y acc hi hy h0
    have : i = 10 := by omega
    subst this
    simp at hy
    omega
  | succ f ih =>
    intro A i y acc hi hy h0
    have hgrp : ∃ g D, g < 256 ∧ vbf (f + 1) y = nb g 8 ++ D ∧ ((y ≤ 127 ∧ g = y ∧ D = []) ∨ (127 < y ∧ g = y % 128 + 128 ∧ D = vbf f (y / 128))) := by
      rw [vbf]
      by_cases h : 127 < y
      · exact ⟨_, _, by omega, by rw [if_pos h], Or.inr ⟨h, rfl, rfl⟩⟩
      · exact ⟨y, [], by omega, by rw [if_neg h, List.append_nil], Or.inl ⟨by omega, rfl, rfl⟩⟩
    obtain ⟨g, D, hg, hv, hc⟩ := hgrp
    have hdrop : ((A ++ vbf (f + 1) y ++ C).drop A.length).take 8 = nb g 8 := by
      rw [hv, List.append_assoc, List.drop_left, List.append_assoc, List.take_append_of_le_length (by rw [nb_len]; omega), List.take_of_length_le (by rw [nb_len]; omega)]
    have hl : ¬ (A ++ vbf (f + 1) y ++ C).length < A.length + 8 := by
      rw [hv]; simp [nb_len]
    rw [rvg, if_neg hl, hdrop, val_nb, Nat.mod_eq_of_lt (show g < 2 ^ 8 from hg)]
    have h9 : i = 9 → y ≤ 1 := by intro e; subst e; simp at hy; omega
    rw [if_neg (by omega)]
    rcases hc with ⟨c1, c2, c3⟩ | ⟨c1, c2, c3⟩
    · subst c2
      rw [if_pos (by omega), if_neg (by omega), hv, c3, Nat.mod_eq_of_lt (by omega)]
      simp [nb_len]
    · rw [if_neg (by omega)]
      have h8 : i < 9 := by omega
      rw [pow64 i h8] at hy
      have := ih (A ++ nb g 8) (i + 1) (y / 128) (acc + g % 128 * 128 ^ i) (by omega) (by omega) (by omega)
      rw [List.length_append, nb_len] at this
      rw [hv, c3, ← List.append_assoc A, this, List.length_append, nb_len]
      congr 2
      · rw [c2, Nat.pow_succ, Nat.add_assoc, show (y % 128 + 128) % 128 = y % 128 from by omega, Nat.mul_comm (128 ^ i) 128, ← Nat.mul_assoc, ← Nat.add_mul]
        congr 2; omega
      · omega

theorem rv_ok {U : List Bool} {a x a' : Nat} (h : rv U a = .inr (x, a')) : x < 18446744073709551616 ∧ a + 8 ≤ a' ∧ a' ≤ U.length ∧ (U.drop a).take (a' - a) = vb x ∧ (a' - a) % 8 = 0 := by
  obtain ⟨y, e1, e2, e3, e4, e5, _, e7⟩ := rvg_ok U 10 0 a 0 x a' (by omega) h
  have : x = y := by rw [e1]; simp
  subst this
  exact ⟨by simpa using e2, e3, e4, e5, e7⟩
theorem rv_back (A C : List Bool) (v : Nat) (h : v < 18446744073709551616) : rv (A ++ vb v ++ C) A.length = .inr (v, A.length + (vb v).length) := by
  have := rvg_back C 10 A 0 v 0 (by omega) (by simpa using h) (by omega)
  simpa [rv, vb] using this

theorem vbf_le (k : Nat) : ∀ v, (vbf k v).length ≤ 8 * (k + 1) ∧ 8 ≤ (vbf k v).length := by
  induction k with
  | zero => intro v; rw [vbf, nb_len]; omega
  | succ k ih =>
    intro v
    rw [vbf]; split
    · rw [List.length_append, nb_len]; have := ih (v / 128); omega
    · rw [nb_len]; omega
theorem vbf_mono (k : Nat) : ∀ a b, a ≤ b → (vbf k a).length ≤ (vbf k b).length := by
  induction k with
  | zero => intro a b _; rw [vbf, vbf, nb_len, nb_len]; omega
  | succ k ih =>
    intro a b h
    rw [vbf, vbf]
    by_cases ha : 127 < a
    · rw [if_pos ha, if_pos (by omega), List.length_append, List.length_append, nb_len, nb_len]
      have := ih (a / 128) (b / 128) (Nat.div_le_div_right h)
      omega
    · rw [if_neg ha]
      split
      · rw [List.length_append, nb_len, nb_len]; omega
      · rw [nb_len, nb_len]; omega
theorem vb_le (v : Nat) (h : v < 18446744073709551616) : (vb v).length ≤ 80 ∧ 8 ≤ (vb v).length := by
  have e : vb v = vbf 9 v := vbf_fuel 9 v (Nat.lt_of_lt_of_le h (by decide)) 1
  rw [e]; exact vbf_le 9 v
theorem vb_mono (a b : Nat) (h : a ≤ b) : (vb a).length ≤ (vb b).length := vbf_mono 10 a b h

/-- Whole bytes of an unpacked row. -/
theorem pack_take_unpack (l : List UInt8) (n : Nat) (h : n ≤ l.length) : pack ((unpack l).take (8 * n)) = l.take n := by
  have : (unpack l).take (8 * n) = unpack (l.take n) := by
    apply List.ext_getElem?
    intro j
    by_cases hj : j < 8 * n
    · rw [List.getElem?_take_of_lt hj, unpack_get _ _ (by omega), unpack_get _ _ (by rw [List.length_take]; omega)]
      unfold mbit
      have : j / 8 < n := by omega
      simp [List.getD, this]
    · rw [List.getElem?_eq_none (by simp; omega), List.getElem?_eq_none (by rw [unpack_len, List.length_take]; omega)]
  rw [this, pack_unpack]
end Go.Proofs.YtepjpdhmjchakaaDoor.Bt
