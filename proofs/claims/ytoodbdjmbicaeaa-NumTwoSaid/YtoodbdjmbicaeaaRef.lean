/- What the document's sums, products, quotients come to, of words. No condition. -/
import Derived.Test.YtoodbdjmbicaeaaRing
import Derived.Test.YtoodbdjmbicaeaaRnd
namespace Go.Proofs.Ytoodbdjmbicaeaa
open Ieee

/-- A finite word's significand, in units of a place not above its own. -/
def sig (a k : Nat) : Nat := mg (rung a) * 2 ^ (pl (rung a) - k)
theorem sig_val {a k : Nat} (h : k ≤ pl (rung a)) : sig a k * 2 ^ k = val (rung a) := by
  unfold sig val
  rw [Nat.mul_assoc, ← Nat.pow_add]
  congr 2
  omega
/-- What Round gives. -/
def roundW (neg : Bool) (n : Nat) (e : Int) (more : Bool) : Nat := double.word neg (min (rnd (2 * n + more.toNat) (e - 1)) infR)
theorem roundW_plain (neg : Bool) (n : Nat) (e : Int) : roundW neg n e false = double.word neg (min (rnd n e) infR) := by
  unfold roundW
  rw [Bool.toNat_false, Nat.add_zero, rnd_double]
theorem opt_round (neg : Bool) (r : Nat) : opt (some (double.word neg (min r infR))) = double.word neg (min r infR) := opt_word (Nat.min_le_right _ _)

/-- The finite sum, by its steps. -/
theorem add_ref {a b k : Nat} (ha : rung a < infR) (hb : rung b < infR) (hka : k ≤ pl (rung a)) (hkb : k ≤ pl (rung b)) :
    (isNeg a = isNeg b → opt (double.add a b) = roundW (isNeg a) (sig a k + sig b k) (-1074 + (k : Int)) false) ∧
    (isNeg a ≠ isNeg b → sig a k = sig b k → opt (double.add a b) = 0) ∧
    (isNeg a ≠ isNeg b → sig b k < sig a k → opt (double.add a b) = roundW (isNeg a) (sig a k - sig b k) (-1074 + (k : Int)) false) ∧
    (isNeg a ≠ isNeg b → sig a k < sig b k → opt (double.add a b) = roundW (isNeg b) (sig b k - sig a k) (-1074 + (k : Int)) false) := by
  obtain ⟨R, hR, e⟩ := add_fin ha hb
  have va := sig_val hka
  have vb := sig_val hkb
  have hp := Nat.two_pow_pos k
  have near : ∀ m, m * 2 ^ k = (ival a + ival b).natAbs → rnd m (-1074 + (k : Int)) = R := by
    intro m hm
    have h1 := rnd_near m (-1074 + (k : Int)) 0 k (by omega)
    rw [hm] at h1
    exact h1.unique hR
  rw [e, opt_round]
  rcases ival_abs a with ⟨ia, sa⟩ | ⟨ia, sa⟩ <;> rcases ival_abs b with ⟨ib, sb⟩ | ⟨ib, sb⟩ <;> rw [sa, sb]
  · refine ⟨fun _ => ?_, fun h => absurd rfl h, fun h => absurd rfl h, fun h => absurd rfl h⟩
    rw [roundW_plain, near _ (by rw [Nat.add_mul, va, vb, ia, ib]; omega)]
    have : ¬ ival a + ival b < 0 := by omega
    rw [decide_eq_false this]
    split <;> rfl
  · refine ⟨(fun h => by cases h), fun _ h => ?_, fun _ h => ?_, fun _ h => ?_⟩
    · have h0 : ival a + ival b = 0 := by rw [ia, ib, ← va, ← vb, h]; omega
      rw [h0] at hR
      rw [if_pos h0, Near.zero hR]
      rfl
    · have h1 : val (rung b) < val (rung a) := by rw [← va, ← vb]; exact Nat.mul_lt_mul_of_pos_right h hp
      rw [roundW_plain, near _ (by rw [Nat.sub_mul, va, vb, ia, ib]; omega), if_neg (by omega), decide_eq_false (by omega)]
    · have h1 : val (rung a) < val (rung b) := by rw [← va, ← vb]; exact Nat.mul_lt_mul_of_pos_right h hp
      rw [roundW_plain, near _ (by rw [Nat.sub_mul, va, vb, ia, ib]; omega), if_neg (by omega), decide_eq_true (by omega)]
  · refine ⟨(fun h => by cases h), fun _ h => ?_, fun _ h => ?_, fun _ h => ?_⟩
    · have h0 : ival a + ival b = 0 := by rw [ia, ib, ← va, ← vb, h]; omega
      rw [h0] at hR
      rw [if_pos h0, Near.zero hR]
      rfl
    · have h1 : val (rung b) < val (rung a) := by rw [← va, ← vb]; exact Nat.mul_lt_mul_of_pos_right h hp
      rw [roundW_plain, near _ (by rw [Nat.sub_mul, va, vb, ia, ib]; omega), if_neg (by omega), decide_eq_true (by omega)]
    · have h1 : val (rung a) < val (rung b) := by rw [← va, ← vb]; exact Nat.mul_lt_mul_of_pos_right h hp
      rw [roundW_plain, near _ (by rw [Nat.sub_mul, va, vb, ia, ib]; omega), if_neg (by omega), decide_eq_false (by omega)]
  · refine ⟨fun _ => ?_, fun h => absurd rfl h, fun h => absurd rfl h, fun h => absurd rfl h⟩
    rw [roundW_plain, near _ (by rw [Nat.add_mul, va, vb, ia, ib]; omega)]
    by_cases h0 : ival a + ival b = 0
    · rw [if_pos h0]; rfl
    · rw [if_neg h0, decide_eq_true (by omega)]
/-- The finite product. -/
theorem mul_ref {a b : Nat} (ha : rung a < infR) (hb : rung b < infR) :
    opt (double.mul a b) = roundW (isNeg a ^^ isNeg b) (mg (rung a) * mg (rung b)) (-1074 + (pl (rung a) : Int) + (-1074 + (pl (rung b) : Int))) false := by
  unfold Format.mul
  rw [read_num ha, read_num hb]
  show opt (some (double.write (.number _ _ _))) = _
  rw [write_num, opt_round, roundW_plain]
theorem mul_inf_num {a b : Nat} (ha : rung a = infR) (hb : rung b < infR) : double.mul a b = if rung b = 0 then none else some (double.word (isNeg a ^^ isNeg b) infR) := by
  unfold Format.mul
  rw [read_inf ha, read_num hb]
  have e : (mg (rung b) = 0) ↔ rung b = 0 := by
    unfold mg
    split
    · rfl
    · constructor <;> intro h <;> omega
  show Option.map double.write (if mg (rung b) = 0 then none else some (Datum.infinity (isNeg a ^^ isNeg b))) = _
  by_cases h : rung b = 0
  · rw [if_pos (e.2 h), if_pos h]; rfl
  · rw [if_neg (fun k => h (e.1 k)), if_neg h]
    show some _ = _
    rw [write_inf]
theorem mul_infs {a b : Nat} (ha : rung a = infR) (hb : rung b = infR) : double.mul a b = some (double.word (isNeg a ^^ isNeg b) infR) := by
  unfold Format.mul
  rw [read_inf ha, read_inf hb]
  show some _ = _
  rw [write_inf]

/-- Between two neighbours of many bits it is one which. -/
theorem sticky_core {q u v : Nat} {p : Int} (hq : 2 ^ 53 ≤ q) (hu : 0 < u) (hu4 : u < 4) (hv : 0 < v) (hv4 : v < 4) : rnd (4 * q + u) p = rnd (4 * q + v) p := by
  have hq0 : q ≠ 0 := by omega
  have hl : ∀ x, x < 4 → (4 * q + x).log2 = q.log2 + 2 := by
    intro x hx
    have h1 := Nat.log2_self_le hq0
    have h2 : q < 2 ^ (q.log2 + 1) := Nat.lt_log2_self
    have h0 : 4 * q + x ≠ 0 := by omega
    have h3 : q.log2 + 2 ≤ (4 * q + x).log2 := (Nat.le_log2 h0).2 (by rw [Nat.pow_add]; omega)
    have h4 : (4 * q + x).log2 < q.log2 + 3 := (Nat.log2_lt h0).2 (by rw [Nat.pow_add] at h2 ⊢; omega)
    omega
  have h53 : 53 ≤ q.log2 := (Nat.le_log2 hq0).2 hq
  unfold rnd
  rw [if_neg (by omega), if_neg (by omega), hl u hu4, hl v hv4]
  obtain ⟨last, hlast⟩ : ∃ last, max (p + ((q.log2 + 2 : Nat) : Int) - 52) (-1074) = last := ⟨_, rfl⟩
  rw [hlast]
  congr 1
  have e0 : (p - last).toNat = 0 := by omega
  rw [e0, Nat.shiftLeft_eq, Nat.shiftLeft_eq, Nat.pow_zero, Nat.mul_one, Nat.mul_one]
  obtain ⟨drop, hdrop⟩ : ∃ drop, (last - p).toNat = drop := ⟨_, rfl⟩
  have hd3 : 3 ≤ drop := by omega
  rw [hdrop]
  unfold Toward.cut
  rw [hl u hu4, hl v hv4]
  simp only [Nat.one_shiftLeft]
  obtain ⟨t, ht⟩ : ∃ t, min drop (q.log2 + 2 + 2) = t + 3 := ⟨min drop (q.log2 + 2 + 2) - 3, by omega⟩
  rw [ht]
  obtain ⟨h, hh⟩ : ∃ h, 2 ^ t = h := ⟨_, rfl⟩
  have hhp : 0 < h := by rw [← hh]; exact Nat.two_pow_pos _
  have e8 : 2 ^ (t + 3) = 8 * h := by rw [Nat.pow_add, hh]; omega
  rw [e8]
  obtain ⟨z, hz⟩ : ∃ z, q % (2 * h) = z := ⟨_, rfl⟩
  obtain ⟨Q, hQ⟩ : ∃ Q, q / (2 * h) = Q := ⟨_, rfl⟩
  have hqz : q = 2 * h * Q + z := by rw [← hz, ← hQ]; exact (Nat.div_add_mod _ _).symm
  have hzl : z < 2 * h := by rw [← hz]; exact Nat.mod_lt _ (by omega)
  have hx : ∀ x, x < 4 → (4 * q + x) / (8 * h) = Q ∧ (4 * q + x) % (8 * h) = 4 * z + x := by
    intro x hx
    have e : 4 * q + x = 8 * h * Q + (4 * z + x) := by
      rw [hqz, Nat.mul_assoc 2, Nat.mul_assoc 8]; omega
    rw [e]
    exact ⟨by rw [Nat.mul_add_div (by omega), Nat.div_eq_of_lt (by omega)]; rfl, by rw [Nat.mul_add_mod, Nat.mod_eq_of_lt (by omega)]⟩
  obtain ⟨u1, u2⟩ := hx u hu4
  obtain ⟨v1, v2⟩ := hx v hv4
  rw [u1, u2, v1, v2]
  have b1 : decide (8 * h < 2 * (4 * z + u)) = decide (8 * h < 2 * (4 * z + v)) := by
    by_cases hc : h ≤ z
    · rw [decide_eq_true (by omega), decide_eq_true (by omega)]
    · rw [decide_eq_false (by omega), decide_eq_false (by omega)]
  have b2 : (8 * h == 2 * (4 * z + u)) = false := by simp; omega
  have b3 : (8 * h == 2 * (4 * z + v)) = false := by simp; omega
  rw [b1, b2, b3]
/-- A quotient with one more digit. -/
theorem quo_more {N d : Nat} {p : Int} (hd : 0 < d) (hq : 2 ^ 53 ≤ N / d) :
    rnd (2 * (2 * N / d) + (2 * N % d != 0).toNat) (p - 1 - 1) = rnd (2 * (N / d) + (N % d != 0).toNat) (p - 1) := by
  obtain ⟨q, hqq⟩ : ∃ q, N / d = q := ⟨_, rfl⟩
  obtain ⟨r, hr⟩ : ∃ r, N % d = r := ⟨_, rfl⟩
  have hN : N = d * q + r := by rw [← hqq, ← hr]; exact (Nat.div_add_mod N d).symm
  have hrl : r < d := by rw [← hr]; exact Nat.mod_lt _ hd
  rw [hqq] at hq ⊢
  rw [hr]
  have h2 : ∃ b r', 2 * N / d = 2 * q + b ∧ 2 * N % d = r' ∧ b ≤ 1 ∧ (b = 0 ∧ r' = 2 * r ∨ b = 1 ∧ r' + d = 2 * r) := by
    by_cases h : d ≤ 2 * r
    · have e : 2 * N = d * (2 * q + 1) + (2 * r - d) := by rw [hN, Nat.mul_add d, Nat.mul_one, Nat.mul_left_comm d 2 q]; omega
      refine ⟨1, 2 * r - d, ?_, ?_, by omega, .inr ⟨rfl, by omega⟩⟩
      · rw [e, Nat.mul_add_div hd, Nat.div_eq_of_lt (by omega)]
      · rw [e, Nat.mul_add_mod, Nat.mod_eq_of_lt (by omega)]
    · have e : 2 * N = d * (2 * q) + 2 * r := by rw [hN, Nat.mul_left_comm d 2 q]; omega
      refine ⟨0, 2 * r, ?_, ?_, by omega, .inl ⟨rfl, rfl⟩⟩
      · rw [e, Nat.mul_add_div hd, Nat.div_eq_of_lt (by omega)]
      · rw [e, Nat.mul_add_mod, Nat.mod_eq_of_lt (by omega)]
  obtain ⟨b, r', e1, e2, hb, hc⟩ := h2
  rw [e1, e2]
  rw [← rnd_double (2 * q + (r != 0).toNat) (p - 1)]
  by_cases h0 : r = 0
  · have hb0 : b = 0 ∧ r' = 0 := by omega
    rw [hb0.1, hb0.2, h0]
    congr 1
  · have hs : (r != 0) = true := bne_iff_ne.2 h0
    rw [hs]
    have e3 : 2 * (2 * q + b) + (r' != 0).toNat = 4 * q + (2 * b + (r' != 0).toNat) := by omega
    have e4 : 2 * (2 * q + true.toNat) = 4 * q + 2 := by simp; omega
    have hbt := Bool.toNat_le (r' != 0)
    rw [e3, e4]
    refine sticky_core hq ?_ (by omega) (by decide) (by decide)
    rcases hc with ⟨h1, h2⟩ | ⟨h1, h2⟩
    · have : (r' != 0) = true := bne_iff_ne.2 (by omega)
      rw [this]; simp
    · omega
theorem quo_many {N d : Nat} {p : Int} (hd : 0 < d) (hq : 2 ^ 53 ≤ N / d) (k : Nat) :
    rnd (2 * (N * 2 ^ k / d) + (N * 2 ^ k % d != 0).toNat) (p - k - 1) = rnd (2 * (N / d) + (N % d != 0).toNat) (p - 1) := by
  induction k with
  | zero => simp
  | succ k ih =>
    have hq2 : 2 ^ 53 ≤ N * 2 ^ k / d := Nat.le_trans hq (Nat.div_le_div_right (Nat.le_mul_of_pos_right _ (Nat.two_pow_pos _)))
    have h := quo_more (N := N * 2 ^ k) (d := d) (p := p - k) hd hq2
    have e1 : 2 * (N * 2 ^ k) = N * 2 ^ (k + 1) := by rw [Nat.pow_succ, Nat.mul_left_comm, Nat.mul_comm 2]
    have e2 : p - (k : Int) - 1 - 1 = p - ((k + 1 : Nat) : Int) - 1 := by omega
    rw [e1, e2, ih] at h
    exact h
/-- The finite quotient. -/
theorem div_ref {a b : Nat} (ha : rung a < infR) (hb : rung b < infR) (ha0 : rung a ≠ 0) (hb0 : rung b ≠ 0) :
    2 ^ 53 ≤ mg (rung a) * 2 ^ 120 / mg (rung b) ∧
    opt (double.div a b) = roundW (isNeg a ^^ isNeg b) (mg (rung a) * 2 ^ 120 / mg (rung b)) (-1074 + (pl (rung a) : Int) - 120 - (-1074 + (pl (rung b) : Int))) (mg (rung a) * 2 ^ 120 % mg (rung b) != 0) := by
  unfold Format.div
  rw [read_num ha, read_num hb]
  obtain ⟨m, hm⟩ : ∃ m, mg (rung a) = m := ⟨_, rfl⟩
  obtain ⟨n, hn⟩ : ∃ n, mg (rung b) = n := ⟨_, rfl⟩
  obtain ⟨i, hi⟩ : ∃ i, -1074 + (pl (rung a) : Int) = i := ⟨_, rfl⟩
  obtain ⟨j, hj⟩ : ∃ j, -1074 + (pl (rung b) : Int) = j := ⟨_, rfl⟩
  have hm0 : m ≠ 0 := by rw [← hm]; unfold mg; split <;> omega
  have hn0 : n ≠ 0 := by rw [← hn]; unfold mg; split <;> omega
  have hml : m < 2 ^ 53 := by rw [← hm]; exact mg_lt _
  have hnl : n < 2 ^ 53 := by rw [← hn]; exact mg_lt _
  rw [hm, hn, hi, hj]
  have hq := quotient_num (isNeg a) (isNeg b) m n 54 i j hn0
  obtain ⟨lm, hlm⟩ : ∃ lm, m.log2 = lm := ⟨_, rfl⟩
  obtain ⟨ln, hln⟩ : ∃ ln, n.log2 = ln := ⟨_, rfl⟩
  have hlm52 : lm ≤ 52 := by have := (Nat.log2_lt hm0).2 hml; omega
  have hln52 : ln ≤ 52 := by have := (Nat.log2_lt hn0).2 hnl; omega
  have hm1 : 2 ^ lm ≤ m := by rw [← hlm]; exact Nat.log2_self_le hm0
  have hn1 : n < 2 ^ (ln + 1) := by rw [← hln]; exact Nat.lt_log2_self
  rw [hlm, hln, Nat.shiftLeft_eq] at hq
  obtain ⟨more, hmore⟩ : ∃ more, 54 + ln - lm = more := ⟨_, rfl⟩
  rw [hmore] at hq
  have hbig : 2 ^ 53 ≤ m * 2 ^ more / n := by
    rw [Nat.le_div_iff_mul_le (by omega)]
    have h1 : 2 ^ 53 * n ≤ 2 ^ 53 * 2 ^ (ln + 1) := Nat.mul_le_mul_left _ (by omega)
    have h2 : 2 ^ lm * 2 ^ more ≤ m * 2 ^ more := Nat.mul_le_mul_right _ hm1
    rw [← Nat.pow_add] at h1 h2
    have h3 : 53 + (ln + 1) = lm + more := by omega
    rw [h3] at h1
    omega
  have hq2 : Datum.quotient (double.fractionBits + 2) (.number (isNeg a) m i) (.number (isNeg b) n j) = some (.number (isNeg a ^^ isNeg b) (2 * (m * 2 ^ more / n) + (m * 2 ^ more % n != 0).toNat) (i - j - (more : Nat) - 1)) := hq
  rw [hq2]
  have hmany := quo_many (N := m * 2 ^ more) (d := n) (p := i - j - (more : Int)) (by omega) hbig (120 - more)
  have e1 : m * 2 ^ more * 2 ^ (120 - more) = m * 2 ^ 120 := by rw [Nat.mul_assoc, ← Nat.pow_add]; congr 2; omega
  have e2 : i - j - (more : Int) - ((120 - more : Nat) : Int) - 1 = i - 120 - j - 1 := by omega
  rw [e1, e2] at hmany
  constructor
  · rw [← e1]
    exact Nat.le_trans hbig (Nat.div_le_div_right (Nat.le_mul_of_pos_right _ (Nat.two_pow_pos _)))
  · show opt (some (double.write (.number _ _ _))) = _
    rw [write_num, opt_round]
    unfold roundW
    rw [hmany]
end Go.Proofs.Ytoodbdjmbicaeaa
