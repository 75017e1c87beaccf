/- The laws of the ring, of words. No condition. -/
import Derived.Test.YtoodbdjmbicaeaaArith
namespace Go.Proofs.Ytoodbdjmbicaeaa
open Ieee

theorem Near.zero {D r : Nat} (h : Near D 0 r) : r = 0 := by
  have := near_val D 0
  rw [val_zero, Nat.zero_mul] at this
  exact h.unique this
theorem Near.ofVal {s r : Nat} (h : Near 0 (val s) r) : r = s := by
  have := near_val 0 s
  rw [Nat.pow_zero, Nat.mul_one] at this
  exact h.unique this
theorem ival_zero_iff {x : Nat} : ival x = 0 ↔ rung x = 0 := by
  constructor
  · intro h
    have : val (rung x) = val 0 := by
      rw [val_zero]
      rcases ival_abs x with ⟨e, _⟩ | ⟨e, _⟩ <;> omega
    exact val_inj this
  · intro h
    unfold ival
    rw [h, val_zero]
    split <;> rfl
theorem natAbs_ival (x : Nat) : (ival x).natAbs = val (rung x) := by
  rcases ival_abs x with ⟨e, _⟩ | ⟨e, _⟩ <;> rw [e] <;> omega
theorem ival_neg {x : Nat} (h : ival x ≠ 0) : decide (ival x < 0) = isNeg x := by
  have hp : (0 : Int) ≤ val (rung x) := by omega
  rcases ival_abs x with ⟨e, f⟩ | ⟨e, f⟩
  · rw [f]; exact decide_eq_false (by omega)
  · rw [f]; exact decide_eq_true (by omega)
theorem isNaN_lt : nanW theNaN = true := by decide
theorem theNaN_lt : theNaN < 2 ^ 64 := by decide
theorem opt_word {neg : Bool} {r : Nat} (h : r ≤ infR) : opt (some (double.word neg r)) = double.word neg r := bitsW_of (nan_word h)
theorem negV_word {neg : Bool} {r : Nat} (h : r ≤ infR) : negV (double.word neg r) = double.word (!neg) r := by
  have := infR_lt
  unfold negV
  rw [flip_word (by omega)]
  exact bitsW_of (nan_word h)
theorem negV_nan {a : Nat} (ha : a < 2 ^ 64) (h : nanW a = true) : negV a = theNaN := by
  unfold negV bitsW
  rw [nanW_eq, rung_flip ha, ← nanW_eq, h]
  rfl
theorem negV_not {a : Nat} (ha : a < 2 ^ 64) (h : nanW a = false) : negV a = flip a := by
  unfold negV
  refine bitsW_of ?_
  rw [nanW_eq, rung_flip ha, ← nanW_eq, h]
theorem nan_flip {a : Nat} (ha : a < 2 ^ 64) : nanW (flip a) = nanW a := by rw [nanW_eq, rung_flip ha, ← nanW_eq]
theorem negNeg {a : Nat} (ha : a < 2 ^ 64) (h : nanW a = false) : negV (negV a) = a := by
  rw [negV_not ha h, negV_not (flip_lt ha) (by rw [nan_flip ha]; exact h), flip_flip ha]

theorem add_nan {a b : Nat} (h : nanW a = true ∨ nanW b = true) : double.add a b = none := by
  rcases h with h | h
  · unfold Format.add; rw [read_nan h]; rfl
  · rw [add_comm']; unfold Format.add; rw [read_nan h]; rfl
theorem mul_nan {a b : Nat} (h : nanW a = true ∨ nanW b = true) : double.mul a b = none := by
  rcases h with h | h
  · unfold Format.mul; rw [read_nan h]; rfl
  · rw [mul_comm']; unfold Format.mul; rw [read_nan h]; rfl
theorem sub_nan {a b : Nat} (hb : b < 2 ^ 64) (h : nanW a = true ∨ nanW b = true) : double.sub a b = none := by
  rw [sub_flip hb]
  exact add_nan (by rw [nan_flip hb]; exact h)
theorem add_infs {a b : Nat} (ha : rung a = infR) (hb : rung b = infR) : double.add a b = if isNeg a = isNeg b then some (double.word (isNeg a) infR) else none := by
  unfold Format.add
  rw [read_inf ha, read_inf hb]
  show Option.map double.write (if isNeg a = isNeg b then some (Datum.infinity (isNeg a)) else none) = _
  split
  · show some _ = _; rw [write_inf]
  · rfl
theorem add_inf {a b : Nat} (ha : rung a = infR) (hb : rung b < infR) : double.add a b = some (double.word (isNeg a) infR) := by
  unfold Format.add
  rw [read_inf ha, read_num hb]
  show some _ = _
  rw [write_inf]

/-- A difference is a sum. -/
theorem sub_neg {a b : Nat} (hb : b < 2 ^ 64) : opt (double.sub a b) = opt (double.add a (negV b)) := by
  by_cases h : nanW b = true
  · rw [negV_nan hb h, sub_nan hb (.inr h), add_nan (.inr isNaN_lt)]
  · rw [negV_not hb (by simpa using h), sub_flip hb]

/-- Turned round, but for a nought. -/
theorem sub_turn {a b : Nat} (ha : a < 2 ^ 64) (hb : b < 2 ^ 64) (h0 : ¬ (opt (double.sub a b) = 0 ∧ opt (double.sub b a) = 0)) : opt (double.sub a b) = negV (opt (double.sub b a)) := by
  by_cases hn : nanW a = true ∨ nanW b = true
  · rw [sub_nan hb hn, sub_nan ha hn.symm]
    exact (negV_nan theNaN_lt isNaN_lt).symm
  · have hna : rung a ≤ infR := nan_false (by simpa using fun h => hn (.inl h))
    have hnb : rung b ≤ infR := nan_false (by simpa using fun h => hn (.inr h))
    rw [sub_flip hb, sub_flip ha] at h0 ⊢
    have ra := rung_flip ha
    have rb := rung_flip hb
    have na := isNeg_flip ha
    have nb := isNeg_flip hb
    by_cases h1 : rung a = infR
    · by_cases h2 : rung b = infR
      · rw [add_infs h1 (by rw [rb]; exact h2), add_infs h2 (by rw [ra]; exact h1), na, nb]
        cases isNeg a <;> cases isNeg b
        · exact (negV_nan theNaN_lt isNaN_lt).symm
        · show opt (some (double.word false infR)) = negV (opt (some (double.word true infR)))
          rw [opt_word (Nat.le_refl _), opt_word (Nat.le_refl _), negV_word (Nat.le_refl _)]; rfl
        · show opt (some (double.word true infR)) = negV (opt (some (double.word false infR)))
          rw [opt_word (Nat.le_refl _), opt_word (Nat.le_refl _), negV_word (Nat.le_refl _)]; rfl
        · exact (negV_nan theNaN_lt isNaN_lt).symm
      · rw [add_inf h1 (by rw [rb]; omega), add_comm' b, add_inf (by rw [ra]; exact h1) (by omega), na, opt_word (Nat.le_refl _), opt_word (Nat.le_refl _), negV_word (Nat.le_refl _), Bool.not_not]
    · by_cases h2 : rung b = infR
      · rw [add_comm' a, add_inf (by rw [rb]; exact h2) (by omega), add_inf h2 (by rw [ra]; omega), nb, opt_word (Nat.le_refl _), opt_word (Nat.le_refl _), negV_word (Nat.le_refl _)]
      · obtain ⟨r, hr, e1⟩ := add_fin (a := a) (b := flip b) (by omega) (by rw [rb]; omega)
        obtain ⟨s, hs, e2⟩ := add_fin (a := b) (b := flip a) (by omega) (by rw [ra]; omega)
        rw [e1, e2] at h0 ⊢
        rw [ival_flip hb] at hr e1 h0 ⊢
        rw [ival_flip ha] at hs e2 h0 ⊢
        have eabs : (ival b + -ival a).natAbs = (ival a + -ival b).natAbs := by omega
        rw [eabs] at hs
        obtain rfl := hr.unique hs
        have hle : min r infR ≤ infR := Nat.min_le_right _ _
        rw [opt_word hle, opt_word hle] at h0 ⊢
        rw [negV_word hle]
        by_cases ht : ival a + -ival b = 0
        · have ht' : ival b + -ival a = 0 := by omega
          rw [if_pos ht, if_pos ht', na, nb] at h0 ⊢
          rw [ht] at hr
          obtain rfl := Near.zero hr
          rw [Nat.zero_min] at h0 ⊢
          revert h0
          cases isNeg a <;> cases isNeg b <;> intro h0
          · exact absurd ⟨rfl, rfl⟩ h0
          · rfl
          · rfl
          · exact absurd ⟨rfl, rfl⟩ h0
        · have ht' : ¬ ival b + -ival a = 0 := by omega
          rw [if_neg ht, if_neg ht']
          congr 1
          by_cases hl : ival a + -ival b < 0
          · rw [decide_eq_true hl, decide_eq_false (by omega)]; rfl
          · rw [decide_eq_false hl, decide_eq_true (by omega)]; rfl

/-- By itself. -/
theorem sub_self {a : Nat} (ha : a < 2 ^ 64) (hf : rung a < infR) : opt (double.sub a a) = 0 := by
  rw [sub_flip ha]
  obtain ⟨r, hr, e1⟩ := add_fin (a := a) (b := flip a) hf (by rw [rung_flip ha]; exact hf)
  rw [ival_flip ha] at hr e1
  have ht : ival a + -ival a = 0 := by omega
  rw [ht] at hr e1
  obtain rfl := Near.zero hr
  rw [e1, if_pos rfl, isNeg_flip ha, Nat.zero_min, opt_word (Nat.zero_le _)]
  cases isNeg a <;> rfl
theorem sub_inf {a : Nat} (ha : a < 2 ^ 64) (hf : rung a = infR) : opt (double.sub a a) = theNaN := by
  rw [sub_flip ha, add_infs hf (by rw [rung_flip ha]; exact hf), isNeg_flip ha]
  cases isNeg a <;> rfl
theorem sub_nought {a : Nat} (ha : a < 2 ^ 64) (hn : nanW a = false) : opt (double.sub a 0) = a := by
  have hf := nan_false hn
  rw [sub_flip (by decide)]
  by_cases hi : rung a = infR
  · rw [add_inf hi (by decide), opt_word (Nat.le_refl _), ← hi, word_split ha]
  · obtain ⟨r, hr, e1⟩ := add_fin (a := a) (b := flip 0) (by omega) (by decide)
    have e0 : ival (flip 0) = 0 := by decide
    rw [e0, Int.add_zero] at hr e1
    rw [natAbs_ival] at hr
    have hrr := Near.ofVal hr
    rw [e1, hrr, Nat.min_eq_left (by omega), opt_word (by omega)]
    have hs : (if ival a = 0 then isNeg a && isNeg (flip 0) else decide (ival a < 0)) = isNeg a := by
      by_cases h0 : ival a = 0
      · rw [if_pos h0, show isNeg (flip 0) = true by decide, Bool.and_true]
      · rw [if_neg h0, ival_neg h0]
    rw [hs, word_split ha]

theorem read_one : double.read oneW = .number false (2 ^ 52) (-52) := by decide
theorem mg_lt (r : Nat) : mg r < 2 ^ 53 := by
  unfold mg
  have := Nat.mod_lt r (show 0 < 2 ^ 52 by decide)
  split <;> omega
theorem mul_one' {a : Nat} (ha : a < 2 ^ 64) (hn : nanW a = false) : opt (double.mul a oneW) = a := by
  have hf := nan_false hn
  unfold Format.mul
  rw [read_one]
  by_cases hi : rung a = infR
  · rw [read_inf hi]
    show opt (some (double.write (.infinity (isNeg a ^^ false)))) = a
    rw [write_inf, opt_word (Nat.le_refl _), Bool.xor_false, ← hi, word_split ha]
  · rw [read_num (by omega)]
    show opt (some (double.write (.number (isNeg a ^^ false) (mg (rung a) * 2 ^ 52) (-1074 + (pl (rung a) : Nat) + -52)))) = a
    have h1 : rnd (mg (rung a) * 2 ^ 52) (-1074 + (pl (rung a) : Nat) + -52) = rung a := by
      refine rnd_val 52 (pl (rung a)) (by omega) ?_
      unfold val
      rw [Nat.mul_assoc, Nat.mul_assoc, Nat.mul_comm (2 ^ 52)]
    rw [write_num, h1, Nat.min_eq_left hf, opt_word hf, Bool.xor_false, word_split ha]
theorem quotient_num (s t : Bool) (m n d : Nat) (i j : Int) (hn : n ≠ 0) : Datum.quotient d (.number s m i) (.number t n j) =
    some (.number (s ^^ t) (2 * ((m <<< (d + n.log2 - m.log2)) / n) + ((m <<< (d + n.log2 - m.log2)) % n != 0).toNat) (i - j - (d + n.log2 - m.log2 : Nat) - 1)) := by
  simp only [Datum.quotient, if_neg hn]
theorem pow_shift (m a b c d : Nat) (h : a + 1 + b = c + d) : 2 * (m * 2 ^ a) * 2 ^ b = m * 2 ^ c * 2 ^ d := by
  have e : 2 ^ a * (2 * 2 ^ b) = 2 ^ c * 2 ^ d := by
    rw [← Nat.pow_add, ← h, show a + 1 + b = a + (b + 1) by omega, Nat.pow_add 2 a, Nat.pow_succ, Nat.mul_comm 2 (2 ^ b)]
  rw [Nat.mul_comm 2 (m * 2 ^ a), Nat.mul_assoc, Nat.mul_assoc, Nat.mul_assoc, e]
theorem div_one' {a : Nat} (ha : a < 2 ^ 64) (hn : nanW a = false) : opt (double.div a oneW) = a := by
  have hf := nan_false hn
  unfold Format.div
  rw [read_one]
  by_cases hi : rung a = infR
  · rw [read_inf hi]
    show opt (some (double.write (.infinity (isNeg a ^^ false)))) = a
    rw [write_inf, opt_word (Nat.le_refl _), Bool.xor_false, ← hi, word_split ha]
  · rw [read_num (by omega)]
    obtain ⟨m, hm⟩ : ∃ m, mg (rung a) = m := ⟨_, rfl⟩
    obtain ⟨p, hp⟩ : ∃ p, pl (rung a) = p := ⟨_, rfl⟩
    have hml : m < 2 ^ 53 := by rw [← hm]; exact mg_lt _
    have hv : val (rung a) = m * 2 ^ p := by unfold val; rw [hm, hp]
    rw [hm, hp]
    have hlg : (2 ^ 52).log2 = 52 := Nat.log2_two_pow
    have hlm : m.log2 ≤ 52 := by
      by_cases h0 : m = 0
      · rw [h0]; decide
      · have := (Nat.log2_lt h0).2 hml; omega
    have hq := quotient_num (isNeg a) false m (2 ^ 52) 54 (-1074 + (p : Int)) (-52) (by decide)
    have e1 : m <<< (54 + 52 - m.log2) = 2 ^ 52 * (m * 2 ^ (54 - m.log2)) := by
      rw [Nat.shiftLeft_eq, show 54 + 52 - m.log2 = 52 + (54 - m.log2) by omega, Nat.pow_add, ← Nat.mul_assoc, ← Nat.mul_assoc, Nat.mul_comm m]
    rw [hlg, e1, Nat.mul_div_cancel_left _ (by decide), Nat.mul_mod_right] at hq
    have hq2 : Datum.quotient (double.fractionBits + 2) (.number (isNeg a) m (-1074 + (p : Int))) (.number false (2 ^ 52) (-52)) = some (.number (isNeg a ^^ false) (2 * (m * 2 ^ (54 - m.log2))) (-1074 + (p : Int) - -52 - ((106 - m.log2 : Nat) : Int) - 1)) := hq
    rw [hq2]
    show opt (some (double.write (.number _ _ _))) = a
    have h1 : rnd (2 * (m * 2 ^ (54 - m.log2))) (-1074 + (p : Int) - -52 - ((106 - m.log2 : Nat) : Int) - 1) = rung a := by
      refine rnd_val (107 - m.log2) (p + 52) (by omega) ?_
      rw [hv]
      exact pow_shift m (54 - m.log2) (p + 52) p (107 - m.log2) (by omega)
    rw [write_num, h1, Nat.min_eq_left hf, opt_word hf, Bool.xor_false, word_split ha]
theorem div_self' {a : Nat} (hf : rung a < infR) (h0 : ival a ≠ 0) : opt (double.div a a) = oneW := by
  unfold Format.div
  rw [read_num hf]
  obtain ⟨m, hm⟩ : ∃ m, mg (rung a) = m := ⟨_, rfl⟩
  obtain ⟨p, hp⟩ : ∃ p, -1074 + (pl (rung a) : Int) = p := ⟨_, rfl⟩
  have hm0 : m ≠ 0 := by
    intro h
    apply h0
    unfold ival val
    rw [hm, h, Nat.zero_mul]
    split <;> rfl
  rw [hm, hp]
  have hq := quotient_num (isNeg a) (isNeg a) m m 54 p p hm0
  rw [show 54 + m.log2 - m.log2 = 54 by omega, Nat.shiftLeft_eq, Nat.mul_div_cancel_left _ (by omega), Nat.mul_mod_right, Bool.xor_self, show p - p - ((54 : Nat) : Int) - 1 = -55 by omega] at hq
  have hq2 : Datum.quotient (double.fractionBits + 2) (.number (isNeg a) m p) (.number (isNeg a) m p) = some (.number false (2 * 2 ^ 54 + 0) (-55)) := hq
  rw [hq2]
  decide
end Go.Proofs.Ytoodbdjmbicaeaa
