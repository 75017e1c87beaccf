/- What is left of a division, step by step. No condition. -/
import Derived.Test.YtoodbdjmbicaeaaLd
namespace Go.Proofs.Ytoodbdjmbicaeaa
open Ieee
set_option linter.unusedVariables false
set_option linter.unusedSimpArgs false

theorem val_little {r : Nat} (h : r < 2 ^ 52) : val r = r := by
  unfold val mg pl
  rw [if_pos h, Nat.div_eq_of_lt h]
  simp
/-- What has few digits is a rung's magnitude. -/
theorem rep {c L : Nat} (hc : c ≤ 2 ^ 53) : ∃ R, val R = c * 2 ^ L := by
  by_cases h0 : c = 0
  · exact ⟨0, by rw [h0, val_zero, Nat.zero_mul]⟩
  by_cases h53 : c = 2 ^ 53
  · exact ⟨L * 2 ^ 52 + c, val_at (.inr (by omega)) hc⟩
  have h1 := Nat.log2_self_le h0
  have h2 : c < 2 ^ (c.log2 + 1) := Nat.lt_log2_self
  have h52 : c.log2 ≤ 52 := by have := (Nat.log2_lt h0).2 (show c < 2 ^ 53 by omega); omega
  obtain ⟨lg, hlg⟩ : ∃ lg, c.log2 = lg := ⟨_, rfl⟩
  rw [hlg] at h1 h2 h52
  by_cases hL : 52 - lg ≤ L
  · have a1 : 2 ^ 52 ≤ c * 2 ^ (52 - lg) := by
      have a : 2 ^ lg * 2 ^ (52 - lg) ≤ c * 2 ^ (52 - lg) := Nat.mul_le_mul_right _ h1
      rw [← Nat.pow_add, show lg + (52 - lg) = 52 by omega] at a
      exact a
    have a2 : c * 2 ^ (52 - lg) ≤ 2 ^ 53 := by
      have a : c * 2 ^ (52 - lg) ≤ 2 ^ (lg + 1) * 2 ^ (52 - lg) := Nat.mul_le_mul_right _ (Nat.le_of_lt h2)
      rw [← Nat.pow_add, show lg + 1 + (52 - lg) = 53 by omega] at a
      exact a
    refine ⟨(L - (52 - lg)) * 2 ^ 52 + c * 2 ^ (52 - lg), ?_⟩
    rw [val_at (.inr a1) a2, Nat.mul_assoc, ← Nat.pow_add, show 52 - lg + (L - (52 - lg)) = L by omega]
  · have a : c * 2 ^ L < 2 ^ 52 := by
      have b : c * 2 ^ L < 2 ^ (lg + 1) * 2 ^ L := Nat.mul_lt_mul_of_pos_right h2 (Nat.two_pow_pos _)
      rw [← Nat.pow_add] at b
      exact Nat.lt_of_lt_of_le b (Nat.pow_le_pow_right (by decide) (by omega))
    exact ⟨c * 2 ^ L, val_little a⟩
theorem pl_mono {r s : Nat} (h : r ≤ s) : pl r ≤ pl s := by
  unfold pl
  have := Nat.div_le_div_right (c := 2 ^ 52) h
  omega
/-- A difference of two that are not far apart. -/
theorem rep_sub {R T : Nat} (h1 : val T ≤ val R) (h2 : val R < 2 * val T) : ∃ R', val R' = val R - val T := by
  have hTR : T ≤ R := Nat.le_of_not_lt fun h => by have := val_lt h; omega
  have hp := pl_mono hTR
  have eT : val T = mg T * 2 ^ pl T := rfl
  have eR : val R = mg R * 2 ^ (pl R - pl T) * 2 ^ pl T := by
    rw [Nat.mul_assoc, ← Nat.pow_add, show pl R - pl T + pl T = pl R by omega]
    rfl
  have hpp := Nat.two_pow_pos (pl T)
  have hc : mg R * 2 ^ (pl R - pl T) - mg T < mg T := by
    have : mg R * 2 ^ (pl R - pl T) * 2 ^ pl T < 2 * mg T * 2 ^ pl T := by rw [← eR, Nat.mul_assoc, ← eT]; exact h2
    have := Nat.lt_of_mul_lt_mul_right this
    have h3 : mg T ≤ mg R * 2 ^ (pl R - pl T) := by
      have : mg T * 2 ^ pl T ≤ mg R * 2 ^ (pl R - pl T) * 2 ^ pl T := by rw [← eR, ← eT]; exact h1
      exact Nat.le_of_mul_le_mul_right this hpp
    omega
  have hm := mg_lt T
  obtain ⟨R', hR'⟩ := rep (c := mg R * 2 ^ (pl R - pl T) - mg T) (L := pl T) (by omega)
  exact ⟨R', by rw [hR', Nat.sub_mul, ← eR, ← eT]⟩
theorem man_bounds {r : Nat} (h0 : r ≠ 0) (hf : r < infR) : (2 ^ 52 + frv r) * 2 ^ lgv r = val r * 2 ^ 52 ∧ frv r < 2 ^ 52 := ⟨man_val h0, (nr_spec h0 hf).2.2.2.2.1⟩

theorem two_one (d : Nat) : 2 ^ (d + 1) = 2 * 2 ^ d := by rw [Nat.pow_add, Nat.mul_comm]
theorem two_le {x y : Nat} (h : x < y) (hy : y < 2 ^ 52) : 2 ^ 52 + y ≤ (2 ^ 52 + x) * 2 := by omega
theorem two_lt {x y : Nat} (h : x < y) : (2 ^ 52 + x) * 2 < 2 * (2 ^ 52 + y) := by omega
theorem dd {x y d u : Nat} (h : x = y + d + u) : (d : Int) = (x : Int) - (y : Int) - (u : Int) := by omega
/-- One step. -/
theorem mod_one {R b : Nat} (hR : R < infR) (hb : b < infR) (hb0 : b ≠ 0) (hle : val b ≤ val R) : ∃ (d T R' : Nat), (d : Int) = (lgv R : Int) - (lgv b : Int) - (if frv R < frv b then 1 else 0) ∧
    rnd (mg b) (-1074 + (pl b : Int) + d) = T ∧ T < infR ∧ val T = val b * 2 ^ d ∧ val T ≤ val R ∧ val R' = val R - val T ∧ R' < infR ∧ val R' < val R ∧ val R' % val b = val R % val b ∧ T ≠ 0 := by
  have hvb := val_pos hb0
  have hR0 : R ≠ 0 := fun h => by rw [h, val_zero] at hle; omega
  obtain ⟨mR, fR⟩ := man_bounds hR0 hR
  obtain ⟨mb, fb⟩ := man_bounds hb0 hb
  have p52 : 0 < 2 ^ 52 := Nat.two_pow_pos _
  -- the places
  have hlg : lgv b ≤ lgv R := by
    unfold lgv
    exact (Nat.le_log2 (val_pos hR0)).2 (Nat.le_trans (Nat.log2_self_le hvb) hle)
  have hd0 : lgv b = lgv R → ¬ frv R < frv b := by
    intro he hlt
    have h1 : (2 ^ 52 + frv R) * 2 ^ lgv R < (2 ^ 52 + frv b) * 2 ^ lgv b := by rw [he]; exact Nat.mul_lt_mul_of_pos_right (by omega) (Nat.two_pow_pos _)
    rw [mR, mb] at h1
    have := Nat.lt_of_mul_lt_mul_right h1
    omega
  obtain ⟨u, hu⟩ : ∃ u : Nat, (if frv R < frv b then (1 : Int) else 0) = (u : Int) ∧ (u = 1 ∧ frv R < frv b ∨ u = 0 ∧ ¬ frv R < frv b) := by
    by_cases h : frv R < frv b
    · exact ⟨1, by rw [if_pos h]; rfl, .inl ⟨rfl, h⟩⟩
    · exact ⟨0, by rw [if_neg h]; rfl, .inr ⟨rfl, h⟩⟩
  obtain ⟨d, hd⟩ : ∃ d, lgv R = lgv b + d + u := ⟨lgv R - lgv b - u, by
    rcases hu.2 with ⟨h1, h2⟩ | ⟨h1, h2⟩
    · have : lgv b ≠ lgv R := fun e => hd0 e h2
      omega
    · omega⟩
  have hvR : (2 ^ 52 + frv R) * 2 ^ (d + u) * 2 ^ lgv b = val R * 2 ^ 52 := by
    rw [← mR, Nat.mul_assoc, ← Nat.pow_add]; congr 2; omega
  have hvT : (2 ^ 52 + frv b) * 2 ^ d * 2 ^ lgv b = val b * 2 ^ d * 2 ^ 52 := by
    rw [Nat.mul_right_comm, mb, Nat.mul_right_comm]
  have hpb := Nat.two_pow_pos (lgv b)
  have hpd := Nat.two_pow_pos d
  have low : val b * 2 ^ d ≤ val R := by
    refine Nat.le_of_mul_le_mul_right (c := 2 ^ 52) ?_ p52
    rw [← hvR, ← hvT]
    refine Nat.mul_le_mul_right _ ?_
    rcases hu.2 with ⟨h1, h2⟩ | ⟨h1, h2⟩
    · rw [h1, two_one d, ← Nat.mul_assoc]
      exact Nat.mul_le_mul_right _ (two_le h2 fb)
    · rw [h1, Nat.add_zero]
      exact Nat.mul_le_mul_right _ (by omega)
  have high : val R < 2 * (val b * 2 ^ d) := by
    refine Nat.lt_of_mul_lt_mul_right (a := 2 ^ 52) ?_
    rw [Nat.mul_assoc 2, ← hvR, ← hvT, ← Nat.mul_assoc 2, ← Nat.mul_assoc 2]
    refine Nat.mul_lt_mul_of_pos_right ?_ hpb
    rcases hu.2 with ⟨h1, h2⟩ | ⟨h1, h2⟩
    · rw [h1, two_one d, ← Nat.mul_assoc]
      exact Nat.mul_lt_mul_of_pos_right (two_lt h2) hpd
    · rw [h1, Nat.add_zero]
      exact Nat.mul_lt_mul_of_pos_right (by omega) hpd
  -- the scaled one
  obtain ⟨T, hT⟩ : ∃ T, val T = val b * 2 ^ d := by
    by_cases h52 : 52 ≤ d + lgv b
    · refine ⟨(d + lgv b - 52) * 2 ^ 52 + (2 ^ 52 + frv b), ?_⟩
      rw [val_at (.inr (by omega)) (by omega)]
      refine Nat.eq_of_mul_eq_mul_right p52 ?_
      rw [← hvT, Nat.mul_assoc, ← Nat.pow_add, Nat.mul_assoc, ← Nat.pow_add]
      congr 2
      omega
    · have h1 : val b < 2 ^ (lgv b + 1) := Nat.lt_log2_self
      have h2 : val b * 2 ^ d < 2 ^ 52 := by
        have h3 : val b * 2 ^ d < 2 ^ (lgv b + 1) * 2 ^ d := Nat.mul_lt_mul_of_pos_right h1 hpd
        rw [← Nat.pow_add] at h3
        exact Nat.lt_of_lt_of_le h3 (Nat.pow_le_pow_right (by decide) (by omega))
      exact ⟨val b * 2 ^ d, val_little h2⟩
  have hrnd : rnd (mg b) (-1074 + (pl b : Int) + d) = T := by
    refine rnd_val 0 (pl b + d) (by omega) ?_
    rw [sig_eq, hT, Nat.pow_zero, Nat.mul_one]
  have hTR : val T ≤ val R := by rw [hT]; exact low
  have hTi : T < infR := Nat.lt_of_le_of_lt (Nat.le_of_not_lt fun h => by have := val_lt h; omega) hR
  obtain ⟨R', hR'⟩ := rep_sub hTR (by rw [hT]; exact high)
  have hT0 : 0 < val T := by rw [hT]; exact Nat.mul_pos (Nat.pos_of_ne_zero hvb) hpd
  have hlt : val R' < val R := by rw [hR']; exact Nat.sub_lt (Nat.lt_of_lt_of_le hT0 hTR) hT0
  refine ⟨d, T, R', by rw [hu.1]; exact dd hd, hrnd, hTi, hT, hTR, hR', Nat.lt_trans (val_lt_iff.1 hlt) hR, hlt, ?_, fun h => by rw [h, val_zero] at hT0; exact absurd hT0 (Nat.lt_irrefl _)⟩
  rw [hR', hT]
  exact Nat.sub_mul_mod low

/-- What Mod leaves of finite numbers. -/
def modR (a b : Nat) : Nat := rnd (val a % val b) (-1074)
theorem modR_of {a b R : Nat} (h : val R = val a % val b) : modR a b = R := rnd_val 0 0 (by omega) (by rw [h])
end Go.Proofs.Ytoodbdjmbicaeaa
