/- Words normalised, and scaled by powers of two. No condition. -/
import Derived.Test.YtoodbdjmbicaeaaGreatDoorP2
section
namespace Go.Proofs.YtoodbdjmbicaeaaGreatDoor
open Ieee

/-- The place of a magnitude's first digit; its digits from there on, 53 of them; what stands behind the first. -/
def lgv (r : Nat) : Nat := (val r).log2
def manv (r : Nat) : Nat := val r * 2 ^ 52 / 2 ^ lgv r
def frv (r : Nat) : Nat := manv r - 2 ^ 52
/-- The rung of what is normalised, and the power that was taken out. -/
def nrR (r : Nat) : Nat := if r < 2 ^ 52 then (lgv r + 1) * 2 ^ 52 + frv r else r
def nrE (r : Nat) : Int := if r < 2 ^ 52 then -52 else 0

theorem val_pos {r : Nat} (h : r ≠ 0) : val r ≠ 0 := by
  have := val_lt (show 0 < r by omega)
  rw [val_zero] at this
  omega
theorem man_norm {r : Nat} (h : 2 ^ 52 ≤ r) : lgv r = 52 + pl r ∧ manv r = mg r ∧ frv r = r % 2 ^ 52 ∧ pl r + 1 = r / 2 ^ 52 := by
  have hm : mg r = 2 ^ 52 + r % 2 ^ 52 := by unfold mg; rw [if_neg (by omega)]
  have hml := mg_lt r
  have hp : pl r + 1 = r / 2 ^ 52 := by unfold pl; omega
  have hv : val r = mg r * 2 ^ pl r := rfl
  have hm0 : mg r ≠ 0 := by omega
  have hl : lgv r = 52 + pl r := by
    unfold lgv
    have h0 : val r ≠ 0 := val_pos (by omega)
    have h1 : 52 + pl r ≤ (val r).log2 := (Nat.le_log2 h0).2 (by rw [hv, Nat.pow_add]; exact Nat.mul_le_mul_right _ (by omega))
    have h2 : (val r).log2 < 53 + pl r := (Nat.log2_lt h0).2 (by rw [hv, Nat.pow_add]; exact Nat.mul_lt_mul_of_pos_right (by omega) (Nat.two_pow_pos _))
    omega
  have hmv : manv r = mg r := by
    unfold manv
    rw [hl, hv, Nat.pow_add, Nat.mul_assoc, Nat.mul_comm (2 ^ pl r)]
    exact Nat.mul_div_cancel _ (Nat.mul_pos (Nat.two_pow_pos _) (Nat.two_pow_pos _))
  exact ⟨hl, hmv, by unfold frv; rw [hmv, hm]; omega, hp⟩
theorem man_sub {r : Nat} (h : r < 2 ^ 52) (h0 : r ≠ 0) : lgv r ≤ 51 ∧ manv r = r * 2 ^ (52 - lgv r) ∧ 2 ^ 52 ≤ manv r ∧ manv r < 2 ^ 53 := by
  have hv : val r = r := by unfold val mg pl; rw [if_pos h, Nat.div_eq_of_lt h]; simp
  have hl : lgv r = r.log2 := by unfold lgv; rw [hv]
  have h1 := Nat.log2_self_le h0
  have h2 : r < 2 ^ (r.log2 + 1) := Nat.lt_log2_self
  have h51 : r.log2 ≤ 51 := by have := (Nat.log2_lt h0).2 h; omega
  rw [← hl] at h1 h2 h51
  have hm : manv r = r * 2 ^ (52 - lgv r) := by
    unfold manv
    rw [hv]
    have : 2 ^ 52 = 2 ^ (52 - lgv r) * 2 ^ lgv r := by rw [← Nat.pow_add]; congr 1; omega
    rw [this, ← Nat.mul_assoc]
    exact Nat.mul_div_cancel _ (Nat.two_pow_pos _)
  refine ⟨h51, hm, ?_, ?_⟩
  · rw [hm]
    have a : 2 ^ lgv r * 2 ^ (52 - lgv r) ≤ r * 2 ^ (52 - lgv r) := Nat.mul_le_mul_right _ h1
    rw [← Nat.pow_add, show lgv r + (52 - lgv r) = 52 by omega] at a
    exact a
  · rw [hm]
    have a : r * 2 ^ (52 - lgv r) < 2 ^ (lgv r + 1) * 2 ^ (52 - lgv r) := Nat.mul_lt_mul_of_pos_right h2 (Nat.two_pow_pos _)
    rw [← Nat.pow_add, show lgv r + 1 + (52 - lgv r) = 53 by omega] at a
    exact a
/-- What is normalised: its rung is normal; its fraction; its exponent. -/
theorem nr_spec {r : Nat} (h0 : r ≠ 0) (hf : r < infR) : 2 ^ 52 ≤ nrR r ∧ nrR r < infR ∧ nrR r % 2 ^ 52 = frv r ∧ nrE r + (nrR r / 2 ^ 52 : Nat) = (lgv r : Int) - 51 ∧ frv r < 2 ^ 52 ∧ lgv r ≤ 2097 := by
  have hi := infR_eq
  unfold nrR nrE
  by_cases h : r < 2 ^ 52
  · obtain ⟨a1, a2, a3, a4⟩ := man_sub h h0
    rw [if_pos h, if_pos h]
    have hfr : frv r < 2 ^ 52 := by unfold frv; omega
    exact ⟨by omega, by omega, by omega, by omega, hfr, by omega⟩
  · obtain ⟨a1, a2, a3, a4⟩ := man_norm (r := r) (by omega)
    rw [if_neg h, if_neg h]
    have hfr : frv r < 2 ^ 52 := by rw [a3]; exact Nat.mod_lt _ (by decide)
    have : r / 2 ^ 52 < 2047 := (Nat.div_lt_iff_lt_mul (by decide)).2 (by omega)
    exact ⟨by omega, hf, a3.symm, by omega, hfr, by omega⟩
theorem man_val {r : Nat} (h0 : r ≠ 0) : (2 ^ 52 + frv r) * 2 ^ lgv r = val r * 2 ^ 52 := by
  by_cases h : r < 2 ^ 52
  · obtain ⟨a1, a2, a3, a4⟩ := man_sub h h0
    have hv : val r = r := by unfold val mg pl; rw [if_pos h, Nat.div_eq_of_lt h]; simp
    have e : 2 ^ 52 + frv r = manv r := by unfold frv; omega
    rw [e, a2, hv, Nat.mul_assoc, ← Nat.pow_add, show 52 - lgv r + lgv r = 52 by omega]
  · obtain ⟨a1, a2, a3, a4⟩ := man_norm (r := r) (by omega)
    have hm : mg r = 2 ^ 52 + r % 2 ^ 52 := by unfold mg; rw [if_neg h]
    have hv : val r = mg r * 2 ^ pl r := rfl
    rw [a3, ← hm, a1, hv, Nat.pow_add, Nat.mul_comm (2 ^ 52), Nat.mul_assoc]
/-- Times 2 to the 52: exact, of what is little. -/
theorem nr_mul {x : Nat} (h : rung x < 2 ^ 52) (h0 : rung x ≠ 0) : opt (double.mul x 4841369599423283200) = double.word (isNeg x) (nrR (rung x)) := by
  have hi := infR_eq
  have fa : rung x < infR := by omega
  rw [mul_ref fa (by decide), roundW_plain]
  have e1 : isNeg 4841369599423283200 = false := by decide
  have e2 : mg (rung 4841369599423283200) = 2 ^ 52 := by decide
  have e3 : pl (rung 4841369599423283200) = 1074 := by decide
  have e4 : mg (rung x) = rung x := by unfold mg; rw [if_pos h]
  have e5 : pl (rung x) = 0 := by unfold pl; rw [Nat.div_eq_of_lt h]
  rw [e1, e2, e3, e4, e5, Bool.xor_false]
  obtain ⟨a1, a2, a3, a4, a5, a6⟩ := nr_spec h0 fa
  obtain ⟨b1, b2, b3, b4⟩ := man_sub h h0
  have hv : val (rung x) = rung x := by unfold val; rw [e4, e5]; simp
  have hr : rnd (rung x * 2 ^ 52) (-1074 + ((0 : Nat) : Int) + (-1074 + ((1074 : Nat) : Int))) = nrR (rung x) := by
    refine rnd_val 0 0 (by omega) ?_
    have hnr : nrR (rung x) = lgv (rung x) * 2 ^ 52 + (2 ^ 52 + frv (rung x)) := by unfold nrR; rw [if_pos h]; omega
    rw [hnr, val_at (.inr (by omega)) (by omega), man_val h0, hv]
  rw [hr, Nat.min_eq_left (by omega)]

/-- A word scaled by a power of two, rounded. -/
def ldW (x : Nat) (n : Int) : Nat := double.word (isNeg x) (min (rnd (mg (rung x)) (-1074 + (pl (rung x) : Int) + n)) infR)
end Go.Proofs.YtoodbdjmbicaeaaGreatDoor
end
section
namespace Go.Proofs.YtoodbdjmbicaeaaGreatDoor
open Ieee
set_option linter.unusedVariables false
set_option linter.unusedSimpArgs false

theorem mul_some {a b : Nat} (ha : rung a < infR) (hb : rung b < infR) :
    double.mul a b = some (roundW (isNeg a ^^ isNeg b) (mg (rung a) * mg (rung b)) (-1074 + (pl (rung a) : Int) + (-1074 + (pl (rung b) : Int))) false) := by
  unfold Format.mul
  rw [read_num ha, read_num hb]
  show some (double.write (.number _ _ _)) = _
  rw [write_num, roundW_plain]
theorem rnd_same {m m' : Nat} {p p' : Int} (D P P' : Nat) (hP : p + 1074 + D = P) (hP' : p' + 1074 + D = P') (h : m * 2 ^ P = m' * 2 ^ P') : rnd m p = rnd m' p' := by
  have h1 := rnd_near m p D P hP
  have h2 := rnd_near m' p' D P' hP'
  rw [h] at h1
  exact h1.unique h2
theorem sig_eq (r K : Nat) : mg r * 2 ^ (pl r + K) = val r * 2 ^ K := by
  unfold val
  rw [Nat.pow_add, Nat.mul_assoc]
/-- Too little. -/
theorem ld_low {r : Nat} {n : Int} (h0 : r ≠ 0) (h : n + (lgv r : Int) - 1074 < -1075) : rnd (mg r) (-1074 + (pl r : Int) + n) = 0 := by
  obtain ⟨D, hD⟩ : ∃ D : Nat, (D : Int) = -n := ⟨(-n).toNat, by omega⟩
  have h1 := rnd_near (mg r) (-1074 + (pl r : Int) + n) D (pl r + 0) (by omega)
  rw [sig_eq, Nat.pow_zero, Nat.mul_one] at h1
  have hv : val r < 2 ^ (lgv r + 1) := Nat.lt_log2_self
  have h2 : 2 ^ (lgv r + 1) * 2 ≤ 2 ^ D := by rw [← Nat.pow_succ]; exact Nat.pow_le_pow_right (by decide) (by omega)
  have h3 : val 1 = 1 := by decide
  refine h1.unique ⟨fun s hs => by omega, fun s hs => by omega, ?_, fun _ => rfl⟩
  rw [val_zero, Nat.zero_add, h3, Nat.one_mul]
  omega
/-- Too great. -/
theorem ld_high {r : Nat} {n : Int} (h0 : r ≠ 0) (h : 1023 < n + (lgv r : Int) - 1074) : min (rnd (mg r) (-1074 + (pl r : Int) + n)) infR = infR := by
  obtain ⟨D, hD⟩ : ∃ D : Nat, (0 : Int) ≤ n + D := ⟨(-n).toNat, by omega⟩
  obtain ⟨K, hK⟩ : ∃ K : Nat, n + D = (K : Int) := ⟨(n + D).toNat, by omega⟩
  have h1 := rnd_near (mg r) (-1074 + (pl r : Int) + n) D (pl r + K) (by omega)
  rw [sig_eq] at h1
  have hv : 2 ^ lgv r ≤ val r := Nat.log2_self_le (val_pos h0)
  have hi : val infR = 2 ^ 52 * 2 ^ 2046 := by
    obtain ⟨l, hl⟩ : ∃ l, l = 2046 := ⟨_, rfl⟩
    have e : infR = l * 2 ^ 52 + 2 ^ 52 := by rw [hl]; decide
    rw [e, val_at (L := l) (k := 2 ^ 52) (.inr (Nat.le_refl _)) (by omega), hl]
  obtain ⟨l, hl⟩ : ∃ l, l = 2046 := ⟨_, rfl⟩
  rw [← hl] at hi
  have h2 := near_val D infR
  have hle : val infR * 2 ^ D ≤ val r * 2 ^ K := by
    have a : 2 ^ lgv r * 2 ^ K ≤ val r * 2 ^ K := Nat.mul_le_mul_right _ hv
    rw [← Nat.pow_add] at a
    refine Nat.le_trans ?_ a
    rw [hi, ← Nat.pow_add, ← Nat.pow_add]
    exact Nat.pow_le_pow_right (by decide) (by omega)
  have h3 := h2.mono h1 hle
  omega
/-- Between. -/
theorem ld_mid {r : Nat} {n : Int} {L : Nat} (h0 : r ≠ 0) (hf : frv r < 2 ^ 52) (h : n + (lgv r : Int) - 1074 + 1022 = (L : Int)) : rnd (mg r) (-1074 + (pl r : Int) + n) = L * 2 ^ 52 + (2 ^ 52 + frv r) := by
  obtain ⟨D, hD⟩ : ∃ D : Nat, (0 : Int) ≤ n + D := ⟨(-n).toNat, by omega⟩
  obtain ⟨K, hK⟩ : ∃ K : Nat, n + D = (K : Int) := ⟨(n + D).toNat, by omega⟩
  refine rnd_val D (pl r + K) (by omega) ?_
  rw [sig_eq, val_at (.inr (by omega)) (by omega)]
  have hm := man_val h0
  have hp : 0 < 2 ^ 52 := Nat.two_pow_pos _
  refine Nat.eq_of_mul_eq_mul_right hp ?_
  have e1 : val r * 2 ^ K * 2 ^ 52 = val r * 2 ^ 52 * 2 ^ K := Nat.mul_right_comm _ _ _
  have e2 : (2 ^ 52 + frv r) * 2 ^ L * 2 ^ D * 2 ^ 52 = (2 ^ 52 + frv r) * 2 ^ (L + D + 52) := by rw [Nat.mul_assoc, Nat.mul_assoc, ← Nat.pow_add, ← Nat.pow_add, Nat.add_assoc]
  rw [e1, e2, ← hm, Nat.mul_assoc, ← Nat.pow_add]
  congr 2
  omega
/-- Little, by a product. -/
theorem ld_sub {r : Nat} {n : Int} {L : Nat} (h0 : r ≠ 0) (hf : frv r < 2 ^ 52) (h : n + (lgv r : Int) - 1074 + 53 + 1022 = (L : Int)) :
    rnd (2 ^ 52 * (2 ^ 52 + frv r)) (-1074 + ((969 : Nat) : Int) + (-1074 + (L : Int))) = rnd (mg r) (-1074 + (pl r : Int) + n) := by
  obtain ⟨D, hD⟩ : ∃ D : Nat, (0 : Int) ≤ n + D - 104 := ⟨(104 - n).toNat, by omega⟩
  obtain ⟨K, hK⟩ : ∃ K : Nat, n + D = ((K + 104 : Nat) : Int) := ⟨(n + D - 104).toNat, by omega⟩
  refine rnd_same D (lgv r + K) (pl r + (K + 104)) (by omega) (by omega) ?_
  rw [sig_eq]
  have hm := man_val h0
  have e : 2 ^ 52 * (2 ^ 52 + frv r) * 2 ^ (lgv r + K) = 2 ^ 52 * ((2 ^ 52 + frv r) * 2 ^ lgv r) * 2 ^ K := by rw [Nat.pow_add, ← Nat.mul_assoc, Nat.mul_assoc (2 ^ 52)]
  rw [e, hm, Nat.pow_add 2 K 104, show (2 : Nat) ^ 104 = 2 ^ 52 * 2 ^ 52 by decide]
  simp only [Nat.mul_assoc, Nat.mul_comm, Nat.mul_left_comm]
end Go.Proofs.YtoodbdjmbicaeaaGreatDoor
end
section
namespace Go.Proofs.YtoodbdjmbicaeaaGreatDoor
open Ieee
set_option linter.unusedVariables false
set_option linter.unusedSimpArgs false

theorem val_little {r : Nat} (h : r < 2 ^ 52) : val r = r := by
  unfold val mg pl
  rw [if_pos h, Nat.div_eq_of_lt h]
  simp
/-- What has few digits is a rung's magnitude. -/
theorem rep {c L : Nat} (hc : c ≤ 2 ^ 53) : ∃ R, val R = c * 2 ^ L := by
  by_cases h0 : c = 0
  · exact ⟨0, by rw [h0, val_zero, Nat.zero_mul]⟩
  by_cases h53 : c = 2 ^ 53
  · exact ⟨L * 2 ^ 52 + c, val_at (.inr (by omega)) hc⟩
  have h1 := Nat.log2_self_le h0
  have h2 : c < 2 ^ (c.log2 + 1) := Nat.lt_log2_self
  have h52 : c.log2 ≤ 52 := by have := (Nat.log2_lt h0).2 (show c < 2 ^ 53 by omega); omega
  obtain ⟨lg, hlg⟩ : ∃ lg, c.log2 = lg := ⟨_, rfl⟩
  rw [hlg] at h1 h2 h52
  by_cases hL : 52 - lg ≤ L
  · have a1 : 2 ^ 52 ≤ c * 2 ^ (52 - lg) := by
      have a : 2 ^ lg * 2 ^ (52 - lg) ≤ c * 2 ^ (52 - lg) := Nat.mul_le_mul_right _ h1
      rw [← Nat.pow_add, show lg + (52 - lg) = 52 by omega] at a
      exact a
    have a2 : c * 2 ^ (52 - lg) ≤ 2 ^ 53 := by
      have a : c * 2 ^ (52 - lg) ≤ 2 ^ (lg + 1) * 2 ^ (52 - lg) := Nat.mul_le_mul_right _ (Nat.le_of_lt h2)
      rw [← Nat.pow_add, show lg + 1 + (52 - lg) = 53 by omega] at a
      exact a
    refine ⟨(L - (52 - lg)) * 2 ^ 52 + c * 2 ^ (52 - lg), ?_⟩
    rw [val_at (.inr a1) a2, Nat.mul_assoc, ← Nat.pow_add, show 52 - lg + (L - (52 - lg)) = L by omega]
  · have a : c * 2 ^ L < 2 ^ 52 := by
      have b : c * 2 ^ L < 2 ^ (lg + 1) * 2 ^ L := Nat.mul_lt_mul_of_pos_right h2 (Nat.two_pow_pos _)
      rw [← Nat.pow_add] at b
      exact Nat.lt_of_lt_of_le b (Nat.pow_le_pow_right (by decide) (by omega))
    exact ⟨c * 2 ^ L, val_little a⟩
theorem pl_mono {r s : Nat} (h : r ≤ s) : pl r ≤ pl s := by
  unfold pl
  have := Nat.div_le_div_right (c := 2 ^ 52) h
  omega
/-- A difference of two that are not far apart. -/
theorem rep_sub {R T : Nat} (h1 : val T ≤ val R) (h2 : val R < 2 * val T) : ∃ R', val R' = val R - val T := by
  have hTR : T ≤ R := Nat.le_of_not_lt fun h => by have := val_lt h; omega
  have hp := pl_mono hTR
  have eT : val T = mg T * 2 ^ pl T := rfl
  have eR : val R = mg R * 2 ^ (pl R - pl T) * 2 ^ pl T := by
    rw [Nat.mul_assoc, ← Nat.pow_add, show pl R - pl T + pl T = pl R by omega]
    rfl
  have hpp := Nat.two_pow_pos (pl T)
  have hc : mg R * 2 ^ (pl R - pl T) - mg T < mg T := by
    have : mg R * 2 ^ (pl R - pl T) * 2 ^ pl T < 2 * mg T * 2 ^ pl T := by rw [← eR, Nat.mul_assoc, ← eT]; exact h2
    have := Nat.lt_of_mul_lt_mul_right this
    have h3 : mg T ≤ mg R * 2 ^ (pl R - pl T) := by
      have : mg T * 2 ^ pl T ≤ mg R * 2 ^ (pl R - pl T) * 2 ^ pl T := by rw [← eR, ← eT]; exact h1
      exact Nat.le_of_mul_le_mul_right this hpp
    omega
  have hm := mg_lt T
  obtain ⟨R', hR'⟩ := rep (c := mg R * 2 ^ (pl R - pl T) - mg T) (L := pl T) (by omega)
  exact ⟨R', by rw [hR', Nat.sub_mul, ← eR, ← eT]⟩
theorem man_bounds {r : Nat} (h0 : r ≠ 0) (hf : r < infR) : (2 ^ 52 + frv r) * 2 ^ lgv r = val r * 2 ^ 52 ∧ frv r < 2 ^ 52 := ⟨man_val h0, (nr_spec h0 hf).2.2.2.2.1⟩

theorem two_one (d : Nat) : 2 ^ (d + 1) = 2 * 2 ^ d := by rw [Nat.pow_add, Nat.mul_comm]
theorem two_le {x y : Nat} (h : x < y) (hy : y < 2 ^ 52) : 2 ^ 52 + y ≤ (2 ^ 52 + x) * 2 := by omega
theorem two_lt {x y : Nat} (h : x < y) : (2 ^ 52 + x) * 2 < 2 * (2 ^ 52 + y) := by omega
theorem dd {x y d u : Nat} (h : x = y + d + u) : (d : Int) = (x : Int) - (y : Int) - (u : Int) := by omega
/-- One step. -/
theorem mod_one {R b : Nat} (hR : R < infR) (hb : b < infR) (hb0 : b ≠ 0) (hle : val b ≤ val R) : ∃ (d T R' : Nat), (d : Int) = (lgv R : Int) - (lgv b : Int) - (if frv R < frv b then 1 else 0) ∧
    rnd (mg b) (-1074 + (pl b : Int) + d) = T ∧ T < infR ∧ val T = val b * 2 ^ d ∧ val T ≤ val R ∧ val R' = val R - val T ∧ R' < infR ∧ val R' < val R ∧ val R' % val b = val R % val b ∧ T ≠ 0 := by
  have hvb := val_pos hb0
  have hR0 : R ≠ 0 := fun h => by rw [h, val_zero] at hle; omega
  obtain ⟨mR, fR⟩ := man_bounds hR0 hR
  obtain ⟨mb, fb⟩ := man_bounds hb0 hb
  have p52 : 0 < 2 ^ 52 := Nat.two_pow_pos _
  -- the places
  have hlg : lgv b ≤ lgv R := by
    unfold lgv
    exact (Nat.le_log2 (val_pos hR0)).2 (Nat.le_trans (Nat.log2_self_le hvb) hle)
  have hd0 : lgv b = lgv R → ¬ frv R < frv b := by
    intro he hlt
    have h1 : (2 ^ 52 + frv R) * 2 ^ lgv R < (2 ^ 52 + frv b) * 2 ^ lgv b := by rw [he]; exact Nat.mul_lt_mul_of_pos_right (by omega) (Nat.two_pow_pos _)
    rw [mR, mb] at h1
    have := Nat.lt_of_mul_lt_mul_right h1
    omega
  obtain ⟨u, hu⟩ : ∃ u : Nat, (if frv R < frv b then (1 : Int) else 0) = (u : Int) ∧ (u = 1 ∧ frv R < frv b ∨ u = 0 ∧ ¬ frv R < frv b) := by
    by_cases h : frv R < frv b
    · exact ⟨1, by rw [if_pos h]; rfl, .inl ⟨rfl, h⟩⟩
    · exact ⟨0, by rw [if_neg h]; rfl, .inr ⟨rfl, h⟩⟩
  obtain ⟨d, hd⟩ : ∃ d, lgv R = lgv b + d + u := ⟨lgv R - lgv b - u, by
    rcases hu.2 with ⟨h1, h2⟩ | ⟨h1, h2⟩
    · have : lgv b ≠ lgv R := fun e => hd0 e h2
      omega
    · omega⟩
  have hvR : (2 ^ 52 + frv R) * 2 ^ (d + u) * 2 ^ lgv b = val R * 2 ^ 52 := by
    rw [← mR, Nat.mul_assoc, ← Nat.pow_add]; congr 2; omega
  have hvT : (2 ^ 52 + frv b) * 2 ^ d * 2 ^ lgv b = val b * 2 ^ d * 2 ^ 52 := by
    rw [Nat.mul_right_comm, mb, Nat.mul_right_comm]
  have hpb := Nat.two_pow_pos (lgv b)
  have hpd := Nat.two_pow_pos d
  have low : val b * 2 ^ d ≤ val R := by
    refine Nat.le_of_mul_le_mul_right (c := 2 ^ 52) ?_ p52
    rw [← hvR, ← hvT]
    refine Nat.mul_le_mul_right _ ?_
    rcases hu.2 with ⟨h1, h2⟩ | ⟨h1, h2⟩
    · rw [h1, two_one d, ← Nat.mul_assoc]
      exact Nat.mul_le_mul_right _ (two_le h2 fb)
    · rw [h1, Nat.add_zero]
      exact Nat.mul_le_mul_right _ (by omega)
  have high : val R < 2 * (val b * 2 ^ d) := by
    refine Nat.lt_of_mul_lt_mul_right (a := 2 ^ 52) ?_
    rw [Nat.mul_assoc 2, ← hvR, ← hvT, ← Nat.mul_assoc 2, ← Nat.mul_assoc 2]
    refine Nat.mul_lt_mul_of_pos_right ?_ hpb
    rcases hu.2 with ⟨h1, h2⟩ | ⟨h1, h2⟩
    · rw [h1, two_one d, ← Nat.mul_assoc]
      exact Nat.mul_lt_mul_of_pos_right (two_lt h2) hpd
    · rw [h1, Nat.add_zero]
      exact Nat.mul_lt_mul_of_pos_right (by omega) hpd
  -- the scaled one
  obtain ⟨T, hT⟩ : ∃ T, val T = val b * 2 ^ d := by
    by_cases h52 : 52 ≤ d + lgv b
    · refine ⟨(d + lgv b - 52) * 2 ^ 52 + (2 ^ 52 + frv b), ?_⟩
      rw [val_at (.inr (by omega)) (by omega)]
      refine Nat.eq_of_mul_eq_mul_right p52 ?_
      rw [← hvT, Nat.mul_assoc, ← Nat.pow_add, Nat.mul_assoc, ← Nat.pow_add]
      congr 2
      omega
    · have h1 : val b < 2 ^ (lgv b + 1) := Nat.lt_log2_self
      have h2 : val b * 2 ^ d < 2 ^ 52 := by
        have h3 : val b * 2 ^ d < 2 ^ (lgv b + 1) * 2 ^ d := Nat.mul_lt_mul_of_pos_right h1 hpd
        rw [← Nat.pow_add] at h3
        exact Nat.lt_of_lt_of_le h3 (Nat.pow_le_pow_right (by decide) (by omega))
      exact ⟨val b * 2 ^ d, val_little h2⟩
  have hrnd : rnd (mg b) (-1074 + (pl b : Int) + d) = T := by
    refine rnd_val 0 (pl b + d) (by omega) ?_
    rw [sig_eq, hT, Nat.pow_zero, Nat.mul_one]
  have hTR : val T ≤ val R := by rw [hT]; exact low
  have hTi : T < infR := Nat.lt_of_le_of_lt (Nat.le_of_not_lt fun h => by have := val_lt h; omega) hR
  obtain ⟨R', hR'⟩ := rep_sub hTR (by rw [hT]; exact high)
  have hT0 : 0 < val T := by rw [hT]; exact Nat.mul_pos (Nat.pos_of_ne_zero hvb) hpd
  have hlt : val R' < val R := by rw [hR']; exact Nat.sub_lt (Nat.lt_of_lt_of_le hT0 hTR) hT0
  refine ⟨d, T, R', by rw [hu.1]; exact dd hd, hrnd, hTi, hT, hTR, hR', Nat.lt_trans (val_lt_iff.1 hlt) hR, hlt, ?_, fun h => by rw [h, val_zero] at hT0; exact absurd hT0 (Nat.lt_irrefl _)⟩
  rw [hR', hT]
  exact Nat.sub_mul_mod low

/-- What Mod leaves of finite numbers. -/
def modR (a b : Nat) : Nat := rnd (val a % val b) (-1074)
theorem modR_of {a b R : Nat} (h : val R = val a % val b) : modR a b = R := rnd_val 0 0 (by omega) (by rw [h])
end Go.Proofs.YtoodbdjmbicaeaaGreatDoor
end
