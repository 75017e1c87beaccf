/- Roots, whole parts and signs, as the document has them. No condition. -/
import Derived.Test.YtoodbdjmbicaeaaRef2
import Derived.Test.YtoodbdjmbicaeaaStep
import Derived.Test.YtoodbdjmbicaeaaRise
import Derived.Test.YtoodbdjmbicaeaaWhole
namespace Go.Proofs.Ytoodbdjmbicaeaa
open Ieee

/-- What Floor, Ceil, Trunc give, by the document's steps. -/
theorem wayV_round {way : Toward} (hw : way ≠ .even) {a : Nat} (hf : rung a < infR) :
    wayV way a = roundW (isNeg a) (val (rung a) / U1 + (carry way (isNeg a) (val (rung a) % U1 != 0)).toNat) 0 false := by
  obtain ⟨r, h1, h2, h3⟩ := wayV_fin hw hf
  rw [h2, roundW_plain, rnd_one h3.symm, Nat.min_eq_left (by omega)]

theorem root_unique {n w v : Nat} (h1 : w * w ≤ n) (h2 : n < (w + 1) * (w + 1)) (h3 : v * v ≤ n) (h4 : n < (v + 1) * (v + 1)) : w = v := by
  have a := sq_lt (a := w) (b := v + 1) (by omega)
  have b := sq_lt (a := v) (b := w + 1) (by omega)
  omega
/-- A root with one more digit. -/
theorem root_more {N w w' : Nat} {p : Int} (h1 : w * w ≤ N) (h2 : N < (w + 1) * (w + 1)) (h3 : w' * w' ≤ 4 * N) (h4 : 4 * N < (w' + 1) * (w' + 1)) (hw : 2 ^ 53 ≤ w) :
    rnd (2 * w' + (w' * w' != 4 * N).toNat) (p - 1 - 1) = rnd (2 * w + (w * w != N).toNat) (p - 1) := by
  have e2 : (2 * w) * (2 * w) = 4 * (w * w) := by rw [Nat.mul_mul_mul_comm]
  have e3 : (2 * w + 1) * (2 * w + 1) = 4 * (w * w) + 4 * w + 1 := by
    rw [Nat.add_mul, Nat.mul_add, e2]; omega
  have e4 : (w + 1) * (w + 1) = w * w + 2 * w + 1 := by rw [Nat.add_mul, Nat.mul_add]; omega
  have e5 : (2 * w + 2) * (2 * w + 2) = 4 * ((w + 1) * (w + 1)) := by
    rw [show 2 * w + 2 = 2 * (w + 1) by omega, Nat.mul_mul_mul_comm]
  have hb : w' = 2 * w ∨ w' = 2 * w + 1 := by
    have a := sq_lt (a := 2 * w) (b := w' + 1) (by omega)
    have b := sq_lt (a := w') (b := 2 * w + 2) (by omega)
    omega
  rw [← rnd_double (2 * w + (w * w != N).toNat) (p - 1)]
  by_cases h0 : w * w = N
  · have hw' : w' = 2 * w := by
      rcases hb with h | h
      · exact h
      · rw [h] at h3; omega
    have s1 : (w * w != N) = false := by simp [h0]
    have s2 : (w' * w' != 4 * N) = false := by rw [hw', e2, h0]; simp
    rw [s1, s2, hw']
    congr 1
  · have s1 : (w * w != N) = true := bne_iff_ne.2 h0
    rw [s1]
    have e6 : 2 * (2 * w + true.toNat) = 4 * w + 2 := by simp; omega
    have hbt := Bool.toNat_le (w' * w' != 4 * N)
    rw [e6]
    rcases hb with h | h
    · have s2 : (w' * w' != 4 * N) = true := bne_iff_ne.2 (by rw [h, e2]; omega)
      rw [s2, h, show 2 * (2 * w) + true.toNat = 4 * w + 1 by simp; omega]
      exact sticky_core hw (by decide) (by decide) (by decide) (by decide)
    · rw [h, show 2 * (2 * w + 1) + ((2 * w + 1) * (2 * w + 1) != 4 * N).toNat = 4 * w + (2 + ((2 * w + 1) * (2 * w + 1) != 4 * N).toNat) by omega]
      rw [h] at hbt
      exact sticky_core hw (by omega) (by omega) (by decide) (by decide)
/-- The whole root of every number. -/
theorem root_ex (n : Nat) : ∃ w, w * w ≤ n ∧ n < (w + 1) * (w + 1) := ⟨_, root_spec rfl⟩
theorem root_many {N w : Nat} {p : Int} (h1 : w * w ≤ N) (h2 : N < (w + 1) * (w + 1)) (hw : 2 ^ 53 ≤ w) : ∀ (t : Nat) (v : Nat), v * v ≤ N * 4 ^ t → N * 4 ^ t < (v + 1) * (v + 1) →
    2 ^ 53 ≤ v ∧ rnd (2 * v + (v * v != N * 4 ^ t).toNat) (p - t - 1) = rnd (2 * w + (w * w != N).toNat) (p - 1)
  | 0, v, h3, h4 => by
    rw [Nat.pow_zero, Nat.mul_one] at h3 h4 ⊢
    obtain rfl := root_unique h1 h2 h3 h4
    exact ⟨hw, by simp⟩
  | t + 1, v, h3, h4 => by
    obtain ⟨u, u1, u2⟩ := root_ex (N * 4 ^ t)
    obtain ⟨hu, ih⟩ := root_many (p := p) h1 h2 hw t u u1 u2
    have e : N * 4 ^ (t + 1) = 4 * (N * 4 ^ t) := by rw [Nat.pow_succ, Nat.mul_comm 4 (N * 4 ^ t), Nat.mul_assoc]
    rw [e] at h3 h4 ⊢
    have h := root_more (p := p - t) u1 u2 h3 h4 hu
    rw [ih] at h
    have e2 : p - (t : Int) - 1 - 1 = p - ((t + 1 : Nat) : Int) - 1 := by omega
    rw [e2] at h
    refine ⟨?_, h⟩
    have e3 : u * u ≤ 4 * (N * 4 ^ t) := by omega
    have := sq_lt (a := u) (b := v + 1) (by omega)
    omega
/-- The root of a finite number above nought. -/
theorem sqrt_ref {x : Nat} (hf : rung x < infR) (hs : isNeg x = false) (h0 : rung x ≠ 0) {k r : Nat} (hk : k = 120 ∨ k = 121) (hev : (-1074 + (pl (rung x) : Int) - k) % 2 = 0)
    (h1 : r * r ≤ mg (rung x) * 2 ^ k) (h2 : mg (rung x) * 2 ^ k < (r + 1) * (r + 1)) :
    2 ^ 53 ≤ r ∧ opt (double.sqrt x) = roundW false r ((-1074 + (pl (rung x) : Int) - k) / 2) (r * r != mg (rung x) * 2 ^ k) := by
  unfold Format.sqrt
  rw [read_num hf, hs]
  obtain ⟨m, hm⟩ : ∃ m, mg (rung x) = m := ⟨_, rfl⟩
  obtain ⟨p, hp⟩ : ∃ p, pl (rung x) = p := ⟨_, rfl⟩
  have hml : m < 2 ^ 53 := by rw [← hm]; exact mg_lt _
  have hm0 : m ≠ 0 := by rw [← hm]; exact fun h => h0 (mg_zero.1 h)
  rw [hm] at h1 h2 ⊢
  rw [hp] at hev ⊢
  have hlm : m.log2 ≤ 52 := by have := (Nat.log2_lt hm0).2 hml; omega
  obtain ⟨lg, hlg⟩ : ∃ lg, m.log2 = lg := ⟨_, rfl⟩
  have hm1 : 2 ^ lg ≤ m := by rw [← hlg]; exact Nat.log2_self_le hm0
  have hfb : double.fractionBits + 2 = 54 := by decide
  rw [hfb, root_eq 54 m _ hm0, hlg]
  rw [hlg] at hlm
  obtain ⟨more, hmore⟩ : ∃ more, 2 * 54 - lg + ((-1074 + (p : Int) - (2 * 54 - lg : Nat)) % 2).toNat = more := ⟨_, rfl⟩
  rw [hmore]
  have hmr : more = 108 - lg ∨ more = 109 - lg := by omega
  have heven : (-1074 + (p : Int) - (more : Nat)) % 2 = 0 := by omega
  obtain ⟨E, hE⟩ : ∃ E, (-1074 + (p : Int) - (more : Nat)) / 2 = E := ⟨_, rfl⟩
  have hE2 : 2 * E = -1074 + (p : Int) - more := by omega
  rw [hE, Nat.shiftLeft_eq]
  obtain ⟨N, hN⟩ : ∃ N, m * 2 ^ more = N := ⟨_, rfl⟩
  rw [hN]
  obtain ⟨w, hw⟩ : ∃ w, Datum.rootFrom N (N.log2 / 2 + 1) 0 = w := ⟨_, rfl⟩
  obtain ⟨w1, w2⟩ := root_spec hw
  rw [hw]
  have hNl : 2 ^ 108 ≤ N := by
    rw [← hN]
    have a : 2 ^ lg * 2 ^ more ≤ m * 2 ^ more := Nat.mul_le_mul_right _ hm1
    have b : 2 ^ 108 ≤ 2 ^ lg * 2 ^ more := by rw [← Nat.pow_add]; exact Nat.pow_le_pow_right (by decide) (by omega)
    omega
  have hw53 : 2 ^ 53 ≤ w := by
    have := sq_lt (a := 2 ^ 53) (b := w + 1) (by omega)
    omega
  obtain ⟨t, ht⟩ : ∃ t : Nat, k = more + 2 * t := ⟨(k - more) / 2, by omega⟩
  have e1 : m * 2 ^ k = N * 4 ^ t := by
    rw [← hN, ht, Nat.pow_add, show (4 : Nat) = 2 ^ 2 from rfl, ← Nat.pow_mul, Nat.mul_assoc]
  rw [e1] at h1 h2 ⊢
  obtain ⟨q1, q2⟩ := root_many (p := E) w1 w2 hw53 t r h1 h2
  refine ⟨q1, ?_⟩
  have e2 : (-1074 + (p : Int) - (k : Nat)) / 2 = E - t := by omega
  rw [e2]
  show opt (some (double.write (.number false _ _))) = _
  rw [write_num, opt_round]
  unfold roundW
  rw [q2]

/-- The sign. -/
def sgnW (a : Nat) : Nat := if nanW a then theNaN else if rung a = 0 then a else if isNeg a then 13830554455654793216 else 4607182418800017408
end Go.Proofs.Ytoodbdjmbicaeaa
