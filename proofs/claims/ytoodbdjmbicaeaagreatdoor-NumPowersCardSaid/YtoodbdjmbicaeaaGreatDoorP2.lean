/- Whole numbers as words of 32 bits, the lowest first, none 0 at the end. No condition. -/
import Derived.Test.YtoodbdjmbicaeaaGreatDoorP1
import Derived.Laws.FloatArith
section
namespace Go.Proofs.YtoodbdjmbicaeaaGreatDoor

/-- What words stand for. -/
def num : List Nat → Nat
  | [] => 0
  | x :: l => x + 4294967296 * num l
def OkL (l : List Nat) : Prop := ∀ x ∈ l, x < 4294967296
/-- A number's words. -/
def dig (n : Nat) : List Nat := if n = 0 then [] else n % 4294967296 :: dig (n / 4294967296)
termination_by n
decreasing_by omega
def size (n : Nat) : Nat := if n = 0 then 0 else n.log2 + 1

theorem b_pow (i : Nat) : 4294967296 ^ i = 2 ^ (32 * i) := by
  exact (Nat.pow_mul 2 32 i).symm
theorem b_pos (i : Nat) : 0 < 4294967296 ^ i := by rw [b_pow]; exact Nat.two_pow_pos _
theorem b_succ (i : Nat) : 4294967296 ^ (i + 1) = 4294967296 ^ i * 4294967296 := Nat.pow_succ 4294967296 i
theorem num_append (l m : List Nat) : num (l ++ m) = num l + num m * 4294967296 ^ l.length := by
  induction l with
  | nil => simp [num]
  | cons x l ih =>
    rw [List.cons_append, num, num, ih, List.length_cons, b_succ, Nat.mul_add, ← Nat.add_assoc]
    congr 1
    rw [Nat.mul_comm 4294967296, Nat.mul_assoc]
theorem num_one (l : List Nat) (x : Nat) : num (l ++ [x]) = num l + x * 4294967296 ^ l.length := by
  rw [num_append]; simp [num]
theorem num_lt {l : List Nat} (h : OkL l) : num l < 4294967296 ^ l.length := by
  induction l with
  | nil => simp [num]
  | cons x l ih =>
    have h1 := ih (fun y hy => h y (List.mem_cons_of_mem _ hy))
    have h2 := h x List.mem_cons_self
    rw [num, List.length_cons, b_succ]
    omega
theorem OkL.append {l m : List Nat} (h : OkL l) (k : OkL m) : OkL (l ++ m) := by
  intro x hx
  rcases List.mem_append.1 hx with hx | hx
  · exact h x hx
  · exact k x hx
theorem OkL.one {l : List Nat} {x : Nat} (h : OkL l) (k : x < 4294967296) : OkL (l ++ [x]) :=
  h.append (fun y hy => by rw [List.mem_singleton] at hy; omega)
theorem dig_zero : dig 0 = [] := by rw [dig, if_pos rfl]
theorem dig_pos {n : Nat} (h : n ≠ 0) : dig n = n % 4294967296 :: dig (n / 4294967296) := by rw [dig, if_neg h]
theorem num_dig (n : Nat) : num (dig n) = n := by
  induction n using Nat.strongRecOn with
  | ind n ih =>
    by_cases h : n = 0
    · rw [h, dig_zero]; rfl
    · rw [dig_pos h, num, ih (n / 4294967296) (by omega)]
      omega
theorem dig_ok (n : Nat) : OkL (dig n) := by
  induction n using Nat.strongRecOn with
  | ind n ih =>
    by_cases h : n = 0
    · rw [h, dig_zero]; intro x hx; cases hx
    · rw [dig_pos h]
      intro x hx
      rcases List.mem_cons.1 hx with hx | hx
      · omega
      · exact ih (n / 4294967296) (by omega) x hx
theorem dig_last (n : Nat) : ∀ h : dig n ≠ [], (dig n).getLast h ≠ 0 := by
  induction n using Nat.strongRecOn with
  | ind n ih =>
    intro h
    by_cases h0 : n = 0
    · exact absurd (by rw [h0]; exact dig_zero) h
    · by_cases h1 : n / 4294967296 = 0
      · have e : dig n = [n % 4294967296] := by rw [dig_pos h0, h1, dig_zero]
        simp only [e, List.getLast_singleton]
        omega
      · have h2 : dig (n / 4294967296) ≠ [] := by rw [dig_pos h1]; simp
        have e := dig_pos h0
        simp only [e, List.getLast_cons h2]
        exact ih (n / 4294967296) (by omega) h2
theorem dig_of {l : List Nat} (h : OkL l) (hl : ∀ h : l ≠ [], l.getLast h ≠ 0) : dig (num l) = l := by
  induction l with
  | nil => exact dig_zero
  | cons x l ih =>
    have hx := h x List.mem_cons_self
    have ho : OkL l := fun y hy => h y (List.mem_cons_of_mem _ hy)
    by_cases he : l = []
    · subst he
      have := hl (by simp)
      simp only [List.getLast_singleton] at this
      rw [num, num, dig_pos (by omega)]
      rw [show (x + 4294967296 * 0) % 4294967296 = x by omega, show (x + 4294967296 * 0) / 4294967296 = 0 by omega, dig_zero]
    · have h2 : ∀ h : l ≠ [], l.getLast h ≠ 0 := by
        intro hh
        have := hl (by simp)
        rw [List.getLast_cons hh] at this
        exact this
      have h3 := ih ho h2
      have h4 : num l ≠ 0 := by
        intro h5
        rw [h5, dig_zero] at h3
        exact he h3.symm
      rw [num, dig_pos (by omega)]
      rw [show (x + 4294967296 * num l) % 4294967296 = x by omega, show (x + 4294967296 * num l) / 4294967296 = num l by omega, h3]
theorem get_num {l : List Nat} (h : OkL l) : ∀ (i : Nat) (hi : i < l.length), l[i] = num l / 4294967296 ^ i % 4294967296 := by
  induction l with
  | nil => intro i hi; simp at hi
  | cons x l ih =>
    have hx := h x List.mem_cons_self
    intro i hi
    cases i with
    | zero => simp only [List.getElem_cons_zero, num, Nat.pow_zero, Nat.div_one]; omega
    | succ i =>
      rw [List.getElem_cons_succ, ih (fun y hy => h y (List.mem_cons_of_mem _ hy)) i (by simpa using hi), num, b_succ, Nat.mul_comm (4294967296 ^ i), ← Nat.div_div_eq_div_mul]
      congr 2
      omega
theorem dig_get {n i : Nat} (hi : i < (dig n).length) : (dig n)[i] = n / 4294967296 ^ i % 4294967296 := by
  rw [get_num (dig_ok n) i hi, num_dig]
theorem dig_lt (n : Nat) : n < 4294967296 ^ (dig n).length := by
  have := num_lt (dig_ok n)
  rw [num_dig] at this
  exact this
theorem dig_ge {n : Nat} (h : n ≠ 0) : 0 < (dig n).length ∧ 4294967296 ^ ((dig n).length - 1) ≤ n := by
  have h1 : dig n ≠ [] := by rw [dig_pos h]; simp
  have h0 : 0 < (dig n).length := List.length_pos_iff.2 h1
  refine ⟨h0, ?_⟩
  have h2 := dig_last n h1
  rw [List.getLast_eq_getElem, dig_get (by omega)] at h2
  refine Nat.le_of_not_lt fun h3 => h2 ?_
  rw [Nat.div_eq_of_lt h3]
theorem dig_len_le {n k : Nat} (h : n < 4294967296 ^ k) : (dig n).length ≤ k := by
  by_cases h0 : n = 0
  · rw [h0, dig_zero]; exact Nat.zero_le _
  · obtain ⟨h1, h2⟩ := dig_ge h0
    refine Nat.le_of_not_lt fun h3 => ?_
    have : 4294967296 ^ k ≤ 4294967296 ^ ((dig n).length - 1) := Nat.pow_le_pow_right (by decide) (by omega)
    omega
/-- Of one length, words that stand for one number are the same. -/
theorem num_inj {l m : List Nat} (hl : OkL l) (hm : OkL m) (hlen : l.length = m.length) (h : num l = num m) : l = m := by
  apply List.ext_getElem hlen
  intro i h1 h2
  rw [get_num hl i h1, get_num hm i h2, h]
/-- A nought at the end falls. -/
theorem num_drop {l : List Nat} (h : l ≠ []) (h0 : l.getLast h = 0) : num l.dropLast = num l := by
  have e := List.dropLast_concat_getLast h
  conv => rhs; rw [← e]
  rw [num_one, h0, Nat.zero_mul, Nat.add_zero]
theorem OkL.dropLast {l : List Nat} (h : OkL l) : OkL l.dropLast := fun x hx => h x ((List.dropLast_sublist l).subset hx)

theorem size_le {n j : Nat} : size n ≤ j ↔ n < 2 ^ j := by
  unfold size
  by_cases h : n = 0
  · rw [if_pos h, h]
    have := Nat.two_pow_pos j
    constructor <;> intro _ <;> omega
  · rw [if_neg h]
    have := Nat.log2_lt (k := j) h
    omega
theorem size_zero : size 0 = 0 := rfl
/-- The bits of a number, out of its greatest word. -/
theorem size_dig {n : Nat} (h : n ≠ 0) : size n = 32 * ((dig n).length - 1) + size (n / 4294967296 ^ ((dig n).length - 1)) := by
  obtain ⟨h1, h2⟩ := dig_ge h
  obtain ⟨L, hL⟩ : ∃ L, (dig n).length - 1 = L := ⟨_, rfl⟩
  rw [hL] at h2 ⊢
  rw [b_pow] at h2 ⊢
  have hp := Nat.two_pow_pos (32 * L)
  apply Nat.le_antisymm
  · rw [size_le, Nat.add_comm, Nat.pow_add]
    have h3 : n / 2 ^ (32 * L) < 2 ^ size (n / 2 ^ (32 * L)) := size_le.1 (Nat.le_refl _)
    exact (Nat.div_lt_iff_lt_mul hp).1 h3
  · refine Nat.le_of_not_lt fun h3 => ?_
    have hn : n < 2 ^ size n := size_le.1 (Nat.le_refl _)
    have h4 : 32 * L ≤ size n := by
      refine Nat.le_of_not_lt fun h5 => ?_
      have : 2 ^ size n ≤ 2 ^ (32 * L) := Nat.pow_le_pow_right (by decide) (by omega)
      omega
    have h5 : n / 2 ^ (32 * L) < 2 ^ (size n - 32 * L) := by
      rw [Nat.div_lt_iff_lt_mul hp, ← Nat.pow_add, show size n - 32 * L + 32 * L = size n by omega]
      exact hn
    have := size_le.2 h5
    omega
end Go.Proofs.YtoodbdjmbicaeaaGreatDoor
end
section
namespace Go.Proofs.YtoodbdjmbicaeaaGreatDoor
open Ieee

/-- Is one more taken? -/
def upR (n s : Nat) (more : Bool) : Bool := n.testBit (s - 1) && (n % 2 ^ (s - 1) != 0 || more || (n / 2 ^ s) % 2 == 1)

theorem log2_two (n : Nat) (b : Bool) (hn : n ≠ 0) : (2 * n + b.toNat).log2 + 1 = size n + 1 := by
  have hb := Bool.toNat_le b
  have h0 : 2 * n + b.toNat ≠ 0 := by omega
  unfold size
  rw [if_neg hn]
  have h1 := Nat.log2_self_le hn
  have h2 : n < 2 ^ (n.log2 + 1) := Nat.lt_log2_self
  have h3 : n.log2 + 1 ≤ (2 * n + b.toNat).log2 := (Nat.le_log2 h0).2 (by rw [Nat.pow_succ]; omega)
  have h4 : (2 * n + b.toNat).log2 < n.log2 + 2 := (Nat.log2_lt h0).2 (by rw [Nat.pow_succ]; omega)
  omega

/-- The rung, by the document's steps: something falls. -/
theorem round_down {n : Nat} {more : Bool} {e s : Int} (hn : n ≠ 0) (hs : s = max ((size n : Int) - 53) (-1074 - e)) {S : Nat} (hS : s = (S : Int)) (hS0 : 0 < S) :
    rnd (2 * n + more.toNat) (e - 1) = (e + s + 1074).toNat * 2 ^ 52 + (n / 2 ^ S + (upR n S more).toNat) := by
  have hb := Bool.toNat_le more
  have hl := log2_two n more hn
  unfold rnd
  rw [if_neg (by omega)]
  obtain ⟨lg, hlg⟩ : ∃ lg, (2 * n + more.toNat).log2 = lg := ⟨_, rfl⟩
  rw [hlg] at hl ⊢
  have e1 : max (e - 1 + (lg : Int) - 52) (-1074) = e + s := by omega
  rw [e1]
  have e2 : (e + s - -1074).toNat = (e + s + 1074).toNat := by omega
  have e3 : (e - 1 - (e + s)).toNat = 0 := by omega
  have e4 : (e + s - (e - 1)).toNat = S + 1 := by omega
  rw [e2, e3, e4, Nat.shiftLeft_eq, Nat.pow_zero, Nat.mul_one]
  congr 1
  obtain ⟨k, hk, k1, k2, k3, k4, k5, k6⟩ := cut_even false (2 * n + more.toNat) (S + 1)
  rw [hk]
  obtain ⟨low, hlow⟩ : ∃ low, n / 2 ^ S = low := ⟨_, rfl⟩
  obtain ⟨z, hz⟩ : ∃ z, n % 2 ^ S = z := ⟨_, rfl⟩
  obtain ⟨h, hh⟩ : ∃ h, 2 ^ (S - 1) = h := ⟨_, rfl⟩
  have hhp : 0 < h := by rw [← hh]; exact Nat.two_pow_pos _
  have hT : 2 ^ S = 2 * h := by rw [← hh, ← Nat.pow_succ']; congr 1; omega
  have hT2 : 2 ^ (S + 1) = 4 * h := by rw [Nat.pow_succ, hT]; omega
  have hnz : n = low * (2 * h) + z := by rw [← hlow, ← hz, ← hT, Nat.mul_comm]; exact (Nat.div_add_mod n _).symm
  have hzl : z < 2 * h := by rw [← hz, ← hT]; exact Nat.mod_lt _ (Nat.two_pow_pos _)
  have e5 : (2 * n + more.toNat) / 2 ^ (S + 1) = low := by
    rw [hT2]
    apply Nat.div_eq_of_lt_le
    · rw [hnz]; have : low * (4 * h) = 2 * (low * (2 * h)) := by rw [Nat.mul_left_comm low 4 h, Nat.mul_left_comm low 2 h]; omega
      omega
    · rw [hnz]; have : (low + 1) * (4 * h) = 2 * (low * (2 * h)) + 4 * h := by rw [Nat.add_mul, Nat.one_mul, Nat.mul_left_comm low 4 h, Nat.mul_left_comm low 2 h]; omega
      omega
  rw [e5] at k5 k6
  rw [hT2] at k1 k2 k3 k4
  have hbit : n.testBit (S - 1) = decide (h ≤ z) := by
    rw [Nat.testBit_eq_decide_div_mod_eq, hh]
    have h1 : n / h = 2 * low + z / h := by
      rw [hnz, show low * (2 * h) + z = z + (2 * low) * h by rw [Nat.mul_left_comm, Nat.mul_assoc]; omega, Nat.add_mul_div_right _ _ hhp]; omega
    rw [h1]
    by_cases hq : h ≤ z
    · have : z / h = 1 := Nat.div_eq_of_lt_le (by omega) (by omega)
      rw [this, decide_eq_true hq]
      exact decide_eq_true (by omega)
    · have : z / h = 0 := Nat.div_eq_of_lt (by omega)
      rw [this, decide_eq_false hq]
      exact decide_eq_false (by omega)
  have hlost : (n % h != 0) = (z % h != 0) := by
    rw [hnz, show low * (2 * h) + z = z + (2 * low) * h by rw [Nat.mul_left_comm, Nat.mul_assoc]; omega, Nat.add_mul_mod_self_right]
  have hup : upR n S more = (decide (h ≤ z) && (z % h != 0 || more || low % 2 == 1)) := by
    unfold upR
    rw [hbit, hh, hlost, hlow]
  rw [hlow, hup]
  have hkk : k = low ∨ k = low + 1 := by omega
  have p1 : 2 * (low * (4 * h)) = 4 * (low * (2 * h)) := by rw [Nat.mul_left_comm low 4 h, Nat.mul_left_comm low 2 h]; omega
  have p2 : 2 * ((low + 1) * (4 * h)) = 4 * (low * (2 * h)) + 8 * h := by rw [Nat.add_mul, Nat.one_mul, Nat.mul_left_comm low 4 h, Nat.mul_left_comm low 2 h]; omega
  by_cases hq : h ≤ z
  · rw [decide_eq_true hq, Bool.true_and]
    by_cases hz2 : z = h
    · have h0 : (z % h != 0) = false := by rw [hz2, Nat.mod_self]; rfl
      rw [h0, Bool.false_or]
      cases more
      · simp only [Bool.toNat_false, Nat.add_zero, Bool.false_or] at *
        rcases hkk with hk2 | hk2
        · rw [hk2] at k3 k4
          have := k4 (by omega)
          have h3 : (low % 2 == 1) = false := by simp; omega
          rw [h3]; simp; omega
        · rw [hk2] at k1 k2
          have := k2 (by omega)
          have h3 : (low % 2 == 1) = true := by simp; omega
          rw [h3]; simp; omega
      · simp only [Bool.toNat_true, Bool.true_or] at *
        rcases hkk with hk2 | hk2
        · rw [hk2] at k3; omega
        · omega
    · have hzm : z % h = z - h := by
        rw [Nat.mod_eq_sub_mod hq, Nat.mod_eq_of_lt (by omega)]
      have h0 : (z % h != 0) = true := by rw [hzm]; simp; omega
      rw [h0, Bool.true_or, Bool.true_or]
      simp only [Bool.toNat_true]
      rcases hkk with hk2 | hk2
      · rw [hk2] at k3; omega
      · omega
  · rw [decide_eq_false hq, Bool.false_and]
    simp only [Bool.toNat_false]
    rcases hkk with hk2 | hk2
    · omega
    · rw [hk2] at k1; omega

/-- Nothing falls. -/
theorem round_up {n : Nat} {e s : Int} (hn : n ≠ 0) (hs : s = max ((size n : Int) - 53) (-1074 - e)) {S : Nat} (hS : -s = (S : Int)) :
    rnd (2 * n) (e - 1) = (e + s + 1074).toNat * 2 ^ 52 + n * 2 ^ S := by
  have hl := log2_two n false hn
  simp only [Bool.toNat_false, Nat.add_zero] at hl
  unfold rnd
  rw [if_neg (by omega)]
  obtain ⟨lg, hlg⟩ : ∃ lg, (2 * n).log2 = lg := ⟨_, rfl⟩
  rw [hlg] at hl ⊢
  have e1 : max (e - 1 + (lg : Int) - 52) (-1074) = e + s := by omega
  rw [e1]
  have e2 : (e + s - -1074).toNat = (e + s + 1074).toNat := by omega
  rw [e2, Nat.shiftLeft_eq]
  congr 1
  by_cases h0 : S = 0
  · have e3 : (e - 1 - (e + s)).toNat = 0 := by omega
    have e4 : (e + s - (e - 1)).toNat = 1 := by omega
    rw [e3, e4, h0, Nat.pow_zero, Nat.mul_one, Nat.mul_one]
    obtain ⟨k, hk, k1, k2, k3, k4, k5, k6⟩ := cut_even false (2 * n) 1
    rw [hk]
    have : (2 * n) / 2 ^ 1 = n := by omega
    omega
  · have e3 : (e - 1 - (e + s)).toNat = S - 1 := by omega
    have e4 : (e + s - (e - 1)).toNat = 0 := by omega
    rw [e3, e4]
    obtain ⟨k, hk, k1, k2, k3, k4, k5, k6⟩ := cut_even false (2 * n * 2 ^ (S - 1)) 0
    rw [hk]
    rw [Nat.pow_zero] at k1 k3
    have h2 : 2 * n * 2 ^ (S - 1) = n * 2 ^ S := by
      rw [Nat.mul_comm 2 n, Nat.mul_assoc, ← Nat.pow_succ']
      congr 2
      omega
    rw [← h2]
    omega
/-- In halves. -/
theorem rnd_double (m : Nat) (p : Int) : rnd (2 * m) (p - 1) = rnd m p := by
  obtain ⟨D, hD⟩ : ∃ D : Nat, (D : Int) ≥ 1 - (p + 1074) := ⟨(1 - (p + 1074)).toNat, by omega⟩
  obtain ⟨P, hP⟩ : ∃ P : Nat, p - 1 + 1074 + D = P := ⟨(p - 1 + 1074 + D).toNat, by omega⟩
  have h1 := rnd_near (2 * m) (p - 1) D P hP
  have h2 := rnd_near m p D (P + 1) (by omega)
  have e : 2 * m * 2 ^ P = m * 2 ^ (P + 1) := by rw [Nat.pow_succ, Nat.mul_comm 2 m, Nat.mul_assoc, Nat.mul_comm 2]
  rw [e] at h1
  exact h1.unique h2
end Go.Proofs.YtoodbdjmbicaeaaGreatDoor
end
section
namespace Go.Proofs.YtoodbdjmbicaeaaGreatDoor
open Ieee

/-- The whole part, with its sign. -/
def sv (a : Nat) : Int := if isNeg a then -((val (rung a) / U1 : Nat) : Int) else ((val (rung a) / U1 : Nat) : Int)
def wholeK (a : Nat) : Bool := decide (rung a < infR) && decide (val (rung a) % U1 = 0) && decide (-9223372036854775808 ≤ sv a) && decide (sv a < 9223372036854775808)
def wholeN (a : Nat) : Int := if wholeK a then sv a else 0

theorem cut_zero (a : Nat) (s : Bool) : Toward.zero.cut s (mg (rung a) <<< (-1074 + (pl (rung a) : Int)).toNat) (-(-1074 + (pl (rung a) : Int))).toNat = val (rung a) / U1 := by
  rw [cut_way (by decide)]
  have hc : carry .zero s (mg (rung a) <<< (-1074 + (pl (rung a) : Int)).toNat % 2 ^ (-(-1074 + (pl (rung a) : Int))).toNat != 0) = false := rfl
  rw [hc, Bool.toNat_false, Nat.add_zero]
  obtain ⟨m, hm⟩ : ∃ m, mg (rung a) = m := ⟨_, rfl⟩
  obtain ⟨p, hp⟩ : ∃ p, pl (rung a) = p := ⟨_, rfl⟩
  have hv : val (rung a) = m * 2 ^ p := by unfold val; rw [hm, hp]
  rw [hm, hp, hv]
  by_cases hbig : 1074 ≤ p
  · have e1 : (-1074 + (p : Int)).toNat = p - 1074 := by omega
    have e2 : (-(-1074 + (p : Int))).toNat = 0 := by omega
    rw [e1, e2, Nat.shiftLeft_eq, Nat.pow_zero, Nat.div_one, U1_more hbig, ← Nat.mul_assoc, Nat.mul_div_cancel _ U1_pos]
  · have e1 : (-1074 + (p : Int)).toNat = 0 := by omega
    have e2 : (-(-1074 + (p : Int))).toNat = 1074 - p := by omega
    have e6 : U1 = 2 ^ (1074 - p) * 2 ^ p := U1_split (by omega)
    rw [e1, e2, e6, Nat.shiftLeft_eq, Nat.pow_zero, Nat.mul_one, Nat.mul_div_mul_right _ _ (Nat.two_pow_pos _)]
theorem toInt_fin {a : Nat} (hf : rung a < infR) : (double.read a).toInt .zero = some (sv a) := by
  rw [read_num hf]
  show some (signed (isNeg a) (Toward.zero.cut (isNeg a) (mg (rung a) <<< (-1074 + (pl (rung a) : Int)).toNat) (-(-1074 + (pl (rung a) : Int))).toNat) 0) = _
  rw [cut_zero, signed_eq, Nat.pow_zero, Nat.mul_one]
  rfl
theorem toIntVal {a : Nat} (hf : rung a < infR) (h1 : -9223372036854775808 ≤ sv a) (h2 : sv a < 9223372036854775808) : floatToIntVal .f64 a .i64 = some (sv a) := by
  unfold floatToIntVal
  have e : (FloatKind.f64.decode a).toInt .zero = some (sv a) := toInt_fin hf
  rw [e]
  have h3 : IntKind.i64.min ≤ sv a ∧ sv a ≤ IntKind.i64.max := by
    have e1 : IntKind.i64.min = -9223372036854775808 := by decide
    have e2 : IntKind.i64.max = 9223372036854775807 := by decide
    rw [e1, e2]
    omega
  show (if IntKind.i64.min ≤ sv a ∧ sv a ≤ IntKind.i64.max then some (sv a) else none) = some (sv a)
  rw [if_pos h3]
/-- The whole part's word is the word just if nothing is left. -/
theorem trunc_self {a : Nat} (ha : a < 2 ^ 64) (hf : rung a < infR) : (val (rung a) % U1 = 0 → wayV .zero a = a) ∧ (val (rung a) % U1 ≠ 0 → nanW (wayV .zero a) = false ∧ ival a ≠ ival (wayV .zero a)) := by
  obtain ⟨r, h1, h2, h3⟩ := wayV_fin (way := .zero) (by decide) hf
  have hi := infR_lt
  have hc : carry .zero (isNeg a) (val (rung a) % U1 != 0) = false := rfl
  rw [hc, Bool.toNat_false, Nat.add_zero] at h3
  have hd := Nat.div_add_mod (val (rung a)) U1
  rw [Nat.mul_comm] at hd
  rw [h2]
  constructor
  · intro h
    rw [h] at hd
    have : r = rung a := val_inj (by omega)
    rw [this, word_split ha]
  · intro h
    refine ⟨nan_word (by omega), ?_⟩
    rw [ival_word (by omega)]
    unfold ival
    split <;> omega
theorem val_63 {o : Nat} (h : o = 1085 * 2 ^ 52 + 2 ^ 52) : val o = 2 ^ 63 * U1 := by
  obtain ⟨l, hl⟩ : ∃ l, l = 1085 := ⟨_, rfl⟩
  obtain ⟨n, hn⟩ : ∃ n, n = 1074 := ⟨_, rfl⟩
  have e : o = l * 2 ^ 52 + 2 ^ 52 := by rw [h, hl]
  rw [e, val_at (L := l) (k := 2 ^ 52) (.inr (Nat.le_refl _)) (by omega), U1_of hn, ← Nat.pow_add, ← Nat.pow_add]
  congr 1
  omega
/-- How a finite word that is whole stands to the bounds. -/
theorem bounds {a : Nat} (hr : val (rung a) % U1 = 0) : ival a = sv a * U1 := by
  have hd := Nat.div_add_mod (val (rung a)) U1
  rw [Nat.mul_comm, hr, Nat.add_zero] at hd
  unfold ival sv
  split
  · rw [Int.neg_mul, ← Int.natCast_mul, hd]
  · rw [← Int.natCast_mul, hd]
theorem ival_lo : ival 14114281232179134464 = -9223372036854775808 * (U1 : Int) := by
  have e : rung 14114281232179134464 = 1085 * 2 ^ 52 + 2 ^ 52 := by decide
  unfold ival
  rw [show isNeg 14114281232179134464 = true by decide, if_pos rfl, e, val_63 rfl, Int.natCast_mul, ← Int.neg_mul]
  rfl
theorem ival_hi : ival 4890909195324358656 = 9223372036854775808 * (U1 : Int) := by
  have e : rung 4890909195324358656 = 1085 * 2 ^ 52 + 2 ^ 52 := by decide
  unfold ival
  rw [show isNeg 4890909195324358656 = false by decide, if_neg (by decide), e, val_63 rfl, Int.natCast_mul]
  rfl
end Go.Proofs.YtoodbdjmbicaeaaGreatDoor
end
section
namespace Go.Proofs.YtoodbdjmbicaeaaGreatDoor
open Ieee

/-- A finite word's significand, in units of a place not above its own. -/
def sig (a k : Nat) : Nat := mg (rung a) * 2 ^ (pl (rung a) - k)
theorem sig_val {a k : Nat} (h : k ≤ pl (rung a)) : sig a k * 2 ^ k = val (rung a) := by
  unfold sig val
  rw [Nat.mul_assoc, ← Nat.pow_add]
  congr 2
  omega
/-- What Round gives. -/
def roundW (neg : Bool) (n : Nat) (e : Int) (more : Bool) : Nat := double.word neg (min (rnd (2 * n + more.toNat) (e - 1)) infR)
theorem roundW_plain (neg : Bool) (n : Nat) (e : Int) : roundW neg n e false = double.word neg (min (rnd n e) infR) := by
  unfold roundW
  rw [Bool.toNat_false, Nat.add_zero, rnd_double]
theorem opt_round (neg : Bool) (r : Nat) : opt (some (double.word neg (min r infR))) = double.word neg (min r infR) := opt_word (Nat.min_le_right _ _)

/-- The finite sum, by its steps. -/
theorem add_ref {a b k : Nat} (ha : rung a < infR) (hb : rung b < infR) (hka : k ≤ pl (rung a)) (hkb : k ≤ pl (rung b)) :
    (isNeg a = isNeg b → opt (double.add a b) = roundW (isNeg a) (sig a k + sig b k) (-1074 + (k : Int)) false) ∧
    (isNeg a ≠ isNeg b → sig a k = sig b k → opt (double.add a b) = 0) ∧
    (isNeg a ≠ isNeg b → sig b k < sig a k → opt (double.add a b) = roundW (isNeg a) (sig a k - sig b k) (-1074 + (k : Int)) false) ∧
    (isNeg a ≠ isNeg b → sig a k < sig b k → opt (double.add a b) = roundW (isNeg b) (sig b k - sig a k) (-1074 + (k : Int)) false) := by
  obtain ⟨R, hR, e⟩ := add_fin ha hb
  have va := sig_val hka
  have vb := sig_val hkb
  have hp := Nat.two_pow_pos k
  have near : ∀ m, m * 2 ^ k = (ival a + ival b).natAbs → rnd m (-1074 + (k : Int)) = R := by
    intro m hm
    have h1 := rnd_near m (-1074 + (k : Int)) 0 k (by omega)
    rw [hm] at h1
    exact h1.unique hR
  rw [e, opt_round]
  rcases ival_abs a with ⟨ia, sa⟩ | ⟨ia, sa⟩ <;> rcases ival_abs b with ⟨ib, sb⟩ | ⟨ib, sb⟩ <;> rw [sa, sb]
  · refine ⟨fun _ => ?_, fun h => absurd rfl h, fun h => absurd rfl h, fun h => absurd rfl h⟩
    rw [roundW_plain, near _ (by rw [Nat.add_mul, va, vb, ia, ib]; omega)]
    have : ¬ ival a + ival b < 0 := by omega
    rw [decide_eq_false this]
    split <;> rfl
  · refine ⟨(fun h => by cases h), fun _ h => ?_, fun _ h => ?_, fun _ h => ?_⟩
    · have h0 : ival a + ival b = 0 := by rw [ia, ib, ← va, ← vb, h]; omega
      rw [h0] at hR
      rw [if_pos h0, Near.zero hR]
      rfl
    · have h1 : val (rung b) < val (rung a) := by rw [← va, ← vb]; exact Nat.mul_lt_mul_of_pos_right h hp
      rw [roundW_plain, near _ (by rw [Nat.sub_mul, va, vb, ia, ib]; omega), if_neg (by omega), decide_eq_false (by omega)]
    · have h1 : val (rung a) < val (rung b) := by rw [← va, ← vb]; exact Nat.mul_lt_mul_of_pos_right h hp
      rw [roundW_plain, near _ (by rw [Nat.sub_mul, va, vb, ia, ib]; omega), if_neg (by omega), decide_eq_true (by omega)]
  · refine ⟨(fun h => by cases h), fun _ h => ?_, fun _ h => ?_, fun _ h => ?_⟩
    · have h0 : ival a + ival b = 0 := by rw [ia, ib, ← va, ← vb, h]; omega
      rw [h0] at hR
      rw [if_pos h0, Near.zero hR]
      rfl
    · have h1 : val (rung b) < val (rung a) := by rw [← va, ← vb]; exact Nat.mul_lt_mul_of_pos_right h hp
      rw [roundW_plain, near _ (by rw [Nat.sub_mul, va, vb, ia, ib]; omega), if_neg (by omega), decide_eq_true (by omega)]
    · have h1 : val (rung a) < val (rung b) := by rw [← va, ← vb]; exact Nat.mul_lt_mul_of_pos_right h hp
      rw [roundW_plain, near _ (by rw [Nat.sub_mul, va, vb, ia, ib]; omega), if_neg (by omega), decide_eq_false (by omega)]
  · refine ⟨fun _ => ?_, fun h => absurd rfl h, fun h => absurd rfl h, fun h => absurd rfl h⟩
    rw [roundW_plain, near _ (by rw [Nat.add_mul, va, vb, ia, ib]; omega)]
    by_cases h0 : ival a + ival b = 0
    · rw [if_pos h0]; rfl
    · rw [if_neg h0, decide_eq_true (by omega)]
/-- The finite product. -/
theorem mul_ref {a b : Nat} (ha : rung a < infR) (hb : rung b < infR) :
    opt (double.mul a b) = roundW (isNeg a ^^ isNeg b) (mg (rung a) * mg (rung b)) (-1074 + (pl (rung a) : Int) + (-1074 + (pl (rung b) : Int))) false := by
  unfold Format.mul
  rw [read_num ha, read_num hb]
  show opt (some (double.write (.number _ _ _))) = _
  rw [write_num, opt_round, roundW_plain]
theorem mul_inf_num {a b : Nat} (ha : rung a = infR) (hb : rung b < infR) : double.mul a b = if rung b = 0 then none else some (double.word (isNeg a ^^ isNeg b) infR) := by
  unfold Format.mul
  rw [read_inf ha, read_num hb]
  have e : (mg (rung b) = 0) ↔ rung b = 0 := by
    unfold mg
    split
    · rfl
    · constructor <;> intro h <;> omega
  show Option.map double.write (if mg (rung b) = 0 then none else some (Datum.infinity (isNeg a ^^ isNeg b))) = _
  by_cases h : rung b = 0
  · rw [if_pos (e.2 h), if_pos h]; rfl
  · rw [if_neg (fun k => h (e.1 k)), if_neg h]
    show some _ = _
    rw [write_inf]
theorem mul_infs {a b : Nat} (ha : rung a = infR) (hb : rung b = infR) : double.mul a b = some (double.word (isNeg a ^^ isNeg b) infR) := by
  unfold Format.mul
  rw [read_inf ha, read_inf hb]
  show some _ = _
  rw [write_inf]

/-- Between two neighbours of many bits it is one which. -/
theorem sticky_core {q u v : Nat} {p : Int} (hq : 2 ^ 53 ≤ q) (hu : 0 < u) (hu4 : u < 4) (hv : 0 < v) (hv4 : v < 4) : rnd (4 * q + u) p = rnd (4 * q + v) p := by
  have hq0 : q ≠ 0 := by omega
  have hl : ∀ x, x < 4 → (4 * q + x).log2 = q.log2 + 2 := by
    intro x hx
    have h1 := Nat.log2_self_le hq0
    have h2 : q < 2 ^ (q.log2 + 1) := Nat.lt_log2_self
    have h0 : 4 * q + x ≠ 0 := by omega
    have h3 : q.log2 + 2 ≤ (4 * q + x).log2 := (Nat.le_log2 h0).2 (by rw [Nat.pow_add]; omega)
    have h4 : (4 * q + x).log2 < q.log2 + 3 := (Nat.log2_lt h0).2 (by rw [Nat.pow_add] at h2 ⊢; omega)
    omega
  have h53 : 53 ≤ q.log2 := (Nat.le_log2 hq0).2 hq
  unfold rnd
  rw [if_neg (by omega), if_neg (by omega), hl u hu4, hl v hv4]
  obtain ⟨last, hlast⟩ : ∃ last, max (p + ((q.log2 + 2 : Nat) : Int) - 52) (-1074) = last := ⟨_, rfl⟩
  rw [hlast]
  congr 1
  have e0 : (p - last).toNat = 0 := by omega
  rw [e0, Nat.shiftLeft_eq, Nat.shiftLeft_eq, Nat.pow_zero, Nat.mul_one, Nat.mul_one]
  obtain ⟨drop, hdrop⟩ : ∃ drop, (last - p).toNat = drop := ⟨_, rfl⟩
  have hd3 : 3 ≤ drop := by omega
  rw [hdrop]
  unfold Toward.cut
  rw [hl u hu4, hl v hv4]
  simp only [Nat.one_shiftLeft]
  obtain ⟨t, ht⟩ : ∃ t, min drop (q.log2 + 2 + 2) = t + 3 := ⟨min drop (q.log2 + 2 + 2) - 3, by omega⟩
  rw [ht]
  obtain ⟨h, hh⟩ : ∃ h, 2 ^ t = h := ⟨_, rfl⟩
  have hhp : 0 < h := by rw [← hh]; exact Nat.two_pow_pos _
  have e8 : 2 ^ (t + 3) = 8 * h := by rw [Nat.pow_add, hh]; omega
  rw [e8]
  obtain ⟨z, hz⟩ : ∃ z, q % (2 * h) = z := ⟨_, rfl⟩
  obtain ⟨Q, hQ⟩ : ∃ Q, q / (2 * h) = Q := ⟨_, rfl⟩
  have hqz : q = 2 * h * Q + z := by rw [← hz, ← hQ]; exact (Nat.div_add_mod _ _).symm
  have hzl : z < 2 * h := by rw [← hz]; exact Nat.mod_lt _ (by omega)
  have hx : ∀ x, x < 4 → (4 * q + x) / (8 * h) = Q ∧ (4 * q + x) % (8 * h) = 4 * z + x := by
    intro x hx
    have e : 4 * q + x = 8 * h * Q + (4 * z + x) := by
      rw [hqz, Nat.mul_assoc 2, Nat.mul_assoc 8]; omega
    rw [e]
    exact ⟨by rw [Nat.mul_add_div (by omega), Nat.div_eq_of_lt (by omega)]; rfl, by rw [Nat.mul_add_mod, Nat.mod_eq_of_lt (by omega)]⟩
  obtain ⟨u1, u2⟩ := hx u hu4
  obtain ⟨v1, v2⟩ := hx v hv4
  rw [u1, u2, v1, v2]
  have b1 : decide (8 * h < 2 * (4 * z + u)) = decide (8 * h < 2 * (4 * z + v)) := by
    by_cases hc : h ≤ z
    · rw [decide_eq_true (by omega), decide_eq_true (by omega)]
    · rw [decide_eq_false (by omega), decide_eq_false (by omega)]
  have b2 : (8 * h == 2 * (4 * z + u)) = false := by simp; omega
  have b3 : (8 * h == 2 * (4 * z + v)) = false := by simp; omega
  rw [b1, b2, b3]
/-- A quotient with one more digit. -/
theorem quo_more {N d : Nat} {p : Int} (hd : 0 < d) (hq : 2 ^ 53 ≤ N / d) :
    rnd (2 * (2 * N / d) + (2 * N % d != 0).toNat) (p - 1 - 1) = rnd (2 * (N / d) + (N % d != 0).toNat) (p - 1) := by
  obtain ⟨q, hqq⟩ : ∃ q, N / d = q := ⟨_, rfl⟩
  obtain ⟨r, hr⟩ : ∃ r, N % d = r := ⟨_, rfl⟩
  have hN : N = d * q + r := by rw [← hqq, ← hr]; exact (Nat.div_add_mod N d).symm
  have hrl : r < d := by rw [← hr]; exact Nat.mod_lt _ hd
  rw [hqq] at hq ⊢
  rw [hr]
  have h2 : ∃ b r', 2 * N / d = 2 * q + b ∧ 2 * N % d = r' ∧ b ≤ 1 ∧ (b = 0 ∧ r' = 2 * r ∨ b = 1 ∧ r' + d = 2 * r) := by
    by_cases h : d ≤ 2 * r
    · have e : 2 * N = d * (2 * q + 1) + (2 * r - d) := by rw [hN, Nat.mul_add d, Nat.mul_one, Nat.mul_left_comm d 2 q]; omega
      refine ⟨1, 2 * r - d, ?_, ?_, by omega, .inr ⟨rfl, by omega⟩⟩
      · rw [e, Nat.mul_add_div hd, Nat.div_eq_of_lt (by omega)]
      · rw [e, Nat.mul_add_mod, Nat.mod_eq_of_lt (by omega)]
    · have e : 2 * N = d * (2 * q) + 2 * r := by rw [hN, Nat.mul_left_comm d 2 q]; omega
      refine ⟨0, 2 * r, ?_, ?_, by omega, .inl ⟨rfl, rfl⟩⟩
      · rw [e, Nat.mul_add_div hd, Nat.div_eq_of_lt (by omega)]
      · rw [e, Nat.mul_add_mod, Nat.mod_eq_of_lt (by omega)]
  obtain ⟨b, r', e1, e2, hb, hc⟩ := h2
  rw [e1, e2]
  rw [← rnd_double (2 * q + (r != 0).toNat) (p - 1)]
  by_cases h0 : r = 0
  · have hb0 : b = 0 ∧ r' = 0 := by omega
    rw [hb0.1, hb0.2, h0]
    congr 1
  · have hs : (r != 0) = true := bne_iff_ne.2 h0
    rw [hs]
    have e3 : 2 * (2 * q + b) + (r' != 0).toNat = 4 * q + (2 * b + (r' != 0).toNat) := by omega
    have e4 : 2 * (2 * q + true.toNat) = 4 * q + 2 := by simp; omega
    have hbt := Bool.toNat_le (r' != 0)
    rw [e3, e4]
    refine sticky_core hq ?_ (by omega) (by decide) (by decide)
    rcases hc with ⟨h1, h2⟩ | ⟨h1, h2⟩
    · have : (r' != 0) = true := bne_iff_ne.2 (by omega)
      rw [this]; simp
    · omega
theorem quo_many {N d : Nat} {p : Int} (hd : 0 < d) (hq : 2 ^ 53 ≤ N / d) (k : Nat) :
    rnd (2 * (N * 2 ^ k / d) + (N * 2 ^ k % d != 0).toNat) (p - k - 1) = rnd (2 * (N / d) + (N % d != 0).toNat) (p - 1) := by
  induction k with
  | zero => simp
  | succ k ih =>
    have hq2 : 2 ^ 53 ≤ N * 2 ^ k / d := Nat.le_trans hq (Nat.div_le_div_right (Nat.le_mul_of_pos_right _ (Nat.two_pow_pos _)))
    have h := quo_more (N := N * 2 ^ k) (d := d) (p := p - k) hd hq2
    have e1 : 2 * (N * 2 ^ k) = N * 2 ^ (k + 1) := by rw [Nat.pow_succ, Nat.mul_left_comm, Nat.mul_comm 2]
    have e2 : p - (k : Int) - 1 - 1 = p - ((k + 1 : Nat) : Int) - 1 := by omega
    rw [e1, e2, ih] at h
    exact h
/-- The finite quotient. -/
theorem div_ref {a b : Nat} (ha : rung a < infR) (hb : rung b < infR) (ha0 : rung a ≠ 0) (hb0 : rung b ≠ 0) :
    2 ^ 53 ≤ mg (rung a) * 2 ^ 120 / mg (rung b) ∧
    opt (double.div a b) = roundW (isNeg a ^^ isNeg b) (mg (rung a) * 2 ^ 120 / mg (rung b)) (-1074 + (pl (rung a) : Int) - 120 - (-1074 + (pl (rung b) : Int))) (mg (rung a) * 2 ^ 120 % mg (rung b) != 0) := by
  unfold Format.div
  rw [read_num ha, read_num hb]
  obtain ⟨m, hm⟩ : ∃ m, mg (rung a) = m := ⟨_, rfl⟩
  obtain ⟨n, hn⟩ : ∃ n, mg (rung b) = n := ⟨_, rfl⟩
  obtain ⟨i, hi⟩ : ∃ i, -1074 + (pl (rung a) : Int) = i := ⟨_, rfl⟩
  obtain ⟨j, hj⟩ : ∃ j, -1074 + (pl (rung b) : Int) = j := ⟨_, rfl⟩
  have hm0 : m ≠ 0 := by rw [← hm]; unfold mg; split <;> omega
  have hn0 : n ≠ 0 := by rw [← hn]; unfold mg; split <;> omega
  have hml : m < 2 ^ 53 := by rw [← hm]; exact mg_lt _
  have hnl : n < 2 ^ 53 := by rw [← hn]; exact mg_lt _
  rw [hm, hn, hi, hj]
  have hq := quotient_num (isNeg a) (isNeg b) m n 54 i j hn0
  obtain ⟨lm, hlm⟩ : ∃ lm, m.log2 = lm := ⟨_, rfl⟩
  obtain ⟨ln, hln⟩ : ∃ ln, n.log2 = ln := ⟨_, rfl⟩
  have hlm52 : lm ≤ 52 := by have := (Nat.log2_lt hm0).2 hml; omega
  have hln52 : ln ≤ 52 := by have := (Nat.log2_lt hn0).2 hnl; omega
  have hm1 : 2 ^ lm ≤ m := by rw [← hlm]; exact Nat.log2_self_le hm0
  have hn1 : n < 2 ^ (ln + 1) := by rw [← hln]; exact Nat.lt_log2_self
  rw [hlm, hln, Nat.shiftLeft_eq] at hq
  obtain ⟨more, hmore⟩ : ∃ more, 54 + ln - lm = more := ⟨_, rfl⟩
  rw [hmore] at hq
  have hbig : 2 ^ 53 ≤ m * 2 ^ more / n := by
    rw [Nat.le_div_iff_mul_le (by omega)]
    have h1 : 2 ^ 53 * n ≤ 2 ^ 53 * 2 ^ (ln + 1) := Nat.mul_le_mul_left _ (by omega)
    have h2 : 2 ^ lm * 2 ^ more ≤ m * 2 ^ more := Nat.mul_le_mul_right _ hm1
    rw [← Nat.pow_add] at h1 h2
    have h3 : 53 + (ln + 1) = lm + more := by omega
    rw [h3] at h1
    omega
  have hq2 : Datum.quotient (double.fractionBits + 2) (.number (isNeg a) m i) (.number (isNeg b) n j) = some (.number (isNeg a ^^ isNeg b) (2 * (m * 2 ^ more / n) + (m * 2 ^ more % n != 0).toNat) (i - j - (more : Nat) - 1)) := hq
  rw [hq2]
  have hmany := quo_many (N := m * 2 ^ more) (d := n) (p := i - j - (more : Int)) (by omega) hbig (120 - more)
  have e1 : m * 2 ^ more * 2 ^ (120 - more) = m * 2 ^ 120 := by rw [Nat.mul_assoc, ← Nat.pow_add]; congr 2; omega
  have e2 : i - j - (more : Int) - ((120 - more : Nat) : Int) - 1 = i - 120 - j - 1 := by omega
  rw [e1, e2] at hmany
  constructor
  · rw [← e1]
    exact Nat.le_trans hbig (Nat.div_le_div_right (Nat.le_mul_of_pos_right _ (Nat.two_pow_pos _)))
  · show opt (some (double.write (.number _ _ _))) = _
    rw [write_num, opt_round]
    unfold roundW
    rw [hmany]
end Go.Proofs.YtoodbdjmbicaeaaGreatDoor
end
section
namespace Go.Proofs.YtoodbdjmbicaeaaGreatDoor
open Ieee

theorem mg_zero {r : Nat} : mg r = 0 ↔ r = 0 := by
  unfold mg
  split
  · rfl
  · constructor <;> intro h <;> omega
theorem xor_bne (x y : Bool) : (x ^^ y) = (x != y) := by cases x <;> cases y <;> rfl
theorem div_nan {a b : Nat} (h : nanW a = true ∨ nanW b = true) : double.div a b = none := by
  unfold Format.div
  rcases h with h | h
  · rw [read_nan h]; rfl
  · rw [read_nan h]; cases double.read a <;> rfl
theorem div_infs {a b : Nat} (ha : rung a = infR) (hb : rung b = infR) : double.div a b = none := by
  unfold Format.div
  rw [read_inf ha, read_inf hb]
  rfl
theorem div_inf_num {a b : Nat} (ha : rung a = infR) (hb : rung b < infR) : double.div a b = some (double.word (isNeg a ^^ isNeg b) infR) := by
  unfold Format.div
  rw [read_inf ha, read_num hb]
  show some (double.write _) = _
  rw [write_inf]
theorem div_num_inf {a b : Nat} (ha : rung a < infR) (hb : rung b = infR) : double.div a b = some (double.word (isNeg a ^^ isNeg b) 0) := by
  unfold Format.div
  rw [read_inf hb, read_num ha]
  show some (double.write (.number _ 0 0)) = _
  rw [write_num]
  have : rnd 0 0 = 0 := by unfold rnd; rw [if_pos rfl]
  rw [this, Nat.zero_min]
theorem div_noughts {a b : Nat} (ha : rung a = 0) (hb : rung b = 0) : double.div a b = none := by
  unfold Format.div
  rw [read_num (by rw [ha]; decide), read_num (by rw [hb]; decide), ha, hb]
  rfl
theorem quotient_nought (s t : Bool) (m d : Nat) (i j : Int) : Datum.quotient d (.number s m i) (.number t 0 j) = if m = 0 then none else some (.infinity (s ^^ t)) := by
  simp only [Datum.quotient, if_true]
theorem div_num_nought {a b : Nat} (ha : rung a < infR) (ha0 : rung a ≠ 0) (hb : rung b = 0) : double.div a b = some (double.word (isNeg a ^^ isNeg b) infR) := by
  unfold Format.div
  rw [read_num ha, read_num (by rw [hb]; decide), hb]
  have hm : mg (rung a) ≠ 0 := fun h => ha0 (mg_zero.1 h)
  rw [show mg 0 = 0 by decide, quotient_nought, if_neg hm]
  show some _ = _
  rw [write_inf]
theorem div_nought_num {a b : Nat} (ha : rung a = 0) (hb : rung b < infR) (hb0 : rung b ≠ 0) : double.div a b = some (double.word (isNeg a ^^ isNeg b) 0) := by
  unfold Format.div
  rw [read_num (by rw [ha]; decide), read_num hb, ha]
  have hm : mg (rung b) ≠ 0 := fun h => hb0 (mg_zero.1 h)
  obtain ⟨n, hn⟩ : ∃ n, mg (rung b) = n := ⟨_, rfl⟩
  rw [hn] at hm ⊢
  have hq := quotient_num (isNeg a) (isNeg b) 0 n 54 (-1074 + (pl 0 : Int)) (-1074 + (pl (rung b) : Int)) hm
  obtain ⟨more, hmore⟩ : ∃ more, 54 + n.log2 - (0 : Nat).log2 = more := ⟨_, rfl⟩
  rw [hmore, Nat.zero_shiftLeft, Nat.zero_div, Nat.zero_mod] at hq
  have hq2 : Datum.quotient (double.fractionBits + 2) (.number (isNeg a) (mg 0) (-1074 + (pl 0 : Int))) (.number (isNeg b) n (-1074 + (pl (rung b) : Int))) = some (.number (isNeg a ^^ isNeg b) 0 (-1074 + (pl 0 : Int) - (-1074 + (pl (rung b) : Int)) - (more : Nat) - 1)) := hq
  rw [hq2]
  show some (double.write (.number _ 0 _)) = _
  rw [write_num]
  have : ∀ p, rnd 0 p = 0 := fun p => by unfold rnd; rw [if_pos rfl]
  rw [this, Nat.zero_min]
theorem word_zero (s : Bool) : opt (some (double.word s 0)) = double.word s 0 := opt_word (Nat.zero_le _)
theorem roundW_zero (s : Bool) (e : Int) : roundW s 0 e false = double.word s 0 := by
  rw [roundW_plain]
  have : rnd 0 e = 0 := by unfold rnd; rw [if_pos rfl]
  rw [this, Nat.zero_min]
end Go.Proofs.YtoodbdjmbicaeaaGreatDoor
end
section
namespace Go.Proofs.YtoodbdjmbicaeaaGreatDoor
open Ieee

/-- What Floor, Ceil, Trunc give, by the document's steps. -/
theorem wayV_round {way : Toward} (hw : way ≠ .even) {a : Nat} (hf : rung a < infR) :
    wayV way a = roundW (isNeg a) (val (rung a) / U1 + (carry way (isNeg a) (val (rung a) % U1 != 0)).toNat) 0 false := by
  obtain ⟨r, h1, h2, h3⟩ := wayV_fin hw hf
  rw [h2, roundW_plain, rnd_one h3.symm, Nat.min_eq_left (by omega)]

theorem root_unique {n w v : Nat} (h1 : w * w ≤ n) (h2 : n < (w + 1) * (w + 1)) (h3 : v * v ≤ n) (h4 : n < (v + 1) * (v + 1)) : w = v := by
  have a := sq_lt (a := w) (b := v + 1) (by omega)
  have b := sq_lt (a := v) (b := w + 1) (by omega)
  omega
/-- A root with one more digit. -/
theorem root_more {N w w' : Nat} {p : Int} (h1 : w * w ≤ N) (h2 : N < (w + 1) * (w + 1)) (h3 : w' * w' ≤ 4 * N) (h4 : 4 * N < (w' + 1) * (w' + 1)) (hw : 2 ^ 53 ≤ w) :
    rnd (2 * w' + (w' * w' != 4 * N).toNat) (p - 1 - 1) = rnd (2 * w + (w * w != N).toNat) (p - 1) := by
  have e2 : (2 * w) * (2 * w) = 4 * (w * w) := by rw [Nat.mul_mul_mul_comm]
  have e3 : (2 * w + 1) * (2 * w + 1) = 4 * (w * w) + 4 * w + 1 := by
    rw [Nat.add_mul, Nat.mul_add, e2]; omega
  have e4 : (w + 1) * (w + 1) = w * w + 2 * w + 1 := by rw [Nat.add_mul, Nat.mul_add]; omega
  have e5 : (2 * w + 2) * (2 * w + 2) = 4 * ((w + 1) * (w + 1)) := by
    rw [show 2 * w + 2 = 2 * (w + 1) by omega, Nat.mul_mul_mul_comm]
  have hb : w' = 2 * w ∨ w' = 2 * w + 1 := by
    have a := sq_lt (a := 2 * w) (b := w' + 1) (by omega)
    have b := sq_lt (a := w') (b := 2 * w + 2) (by omega)
    omega
  rw [← rnd_double (2 * w + (w * w != N).toNat) (p - 1)]
  by_cases h0 : w * w = N
  · have hw' : w' = 2 * w := by
      rcases hb with h | h
      · exact h
      · rw [h] at h3; omega
    have s1 : (w * w != N) = false := by simp [h0]
    have s2 : (w' * w' != 4 * N) = false := by rw [hw', e2, h0]; simp
    rw [s1, s2, hw']
    congr 1
  · have s1 : (w * w != N) = true := bne_iff_ne.2 h0
    rw [s1]
    have e6 : 2 * (2 * w + true.toNat) = 4 * w + 2 := by simp; omega
    have hbt := Bool.toNat_le (w' * w' != 4 * N)
    rw [e6]
    rcases hb with h | h
    · have s2 : (w' * w' != 4 * N) = true := bne_iff_ne.2 (by rw [h, e2]; omega)
      rw [s2, h, show 2 * (2 * w) + true.toNat = 4 * w + 1 by simp; omega]
      exact sticky_core hw (by decide) (by decide) (by decide) (by decide)
    · rw [h, show 2 * (2 * w + 1) + ((2 * w + 1) * (2 * w + 1) != 4 * N).toNat = 4 * w + (2 + ((2 * w + 1) * (2 * w + 1) != 4 * N).toNat) by omega]
      rw [h] at hbt
      exact sticky_core hw (by omega) (by omega) (by decide) (by decide)
/-- The whole root of every number. -/
theorem root_ex (n : Nat) : ∃ w, w * w ≤ n ∧ n < (w + 1) * (w + 1) := ⟨_, root_spec rfl⟩
theorem root_many {N w : Nat} {p : Int} (h1 : w * w ≤ N) (h2 : N < (w + 1) * (w + 1)) (hw : 2 ^ 53 ≤ w) : ∀ (t : Nat) (v : Nat), v * v ≤ N * 4 ^ t → N * 4 ^ t < (v + 1) * (v + 1) →
    2 ^ 53 ≤ v ∧ rnd (2 * v + (v * v != N * 4 ^ t).toNat) (p - t - 1) = rnd (2 * w + (w * w != N).toNat) (p - 1)
  | 0, v, h3, h4 => by
    rw [Nat.pow_zero, Nat.mul_one] at h3 h4 ⊢
    obtain rfl := root_unique h1 h2 h3 h4
    exact ⟨hw, by simp⟩
  | t + 1, v, h3, h4 => by
    obtain ⟨u, u1, u2⟩ := root_ex (N * 4 ^ t)
    obtain ⟨hu, ih⟩ := root_many (p := p) h1 h2 hw t u u1 u2
    have e : N * 4 ^ (t + 1) = 4 * (N * 4 ^ t) := by rw [Nat.pow_succ, Nat.mul_comm 4 (N * 4 ^ t), Nat.mul_assoc]
    rw [e] at h3 h4 ⊢
    have h := root_more (p := p - t) u1 u2 h3 h4 hu
    rw [ih] at h
    have e2 : p - (t : Int) - 1 - 1 = p - ((t + 1 : Nat) : Int) - 1 := by omega
    rw [e2] at h
    refine ⟨?_, h⟩
    have e3 : u * u ≤ 4 * (N * 4 ^ t) := by omega
    have := sq_lt (a := u) (b := v + 1) (by omega)
    omega
/-- The root of a finite number above nought. -/
theorem sqrt_ref {x : Nat} (hf : rung x < infR) (hs : isNeg x = false) (h0 : rung x ≠ 0) {k r : Nat} (hk : k = 120 ∨ k = 121) (hev : (-1074 + (pl (rung x) : Int) - k) % 2 = 0)
    (h1 : r * r ≤ mg (rung x) * 2 ^ k) (h2 : mg (rung x) * 2 ^ k < (r + 1) * (r + 1)) :
    2 ^ 53 ≤ r ∧ opt (double.sqrt x) = roundW false r ((-1074 + (pl (rung x) : Int) - k) / 2) (r * r != mg (rung x) * 2 ^ k) := by
  unfold Format.sqrt
  rw [read_num hf, hs]
  obtain ⟨m, hm⟩ : ∃ m, mg (rung x) = m := ⟨_, rfl⟩
  obtain ⟨p, hp⟩ : ∃ p, pl (rung x) = p := ⟨_, rfl⟩
  have hml : m < 2 ^ 53 := by rw [← hm]; exact mg_lt _
  have hm0 : m ≠ 0 := by rw [← hm]; exact fun h => h0 (mg_zero.1 h)
  rw [hm] at h1 h2 ⊢
  rw [hp] at hev ⊢
  have hlm : m.log2 ≤ 52 := by have := (Nat.log2_lt hm0).2 hml; omega
  obtain ⟨lg, hlg⟩ : ∃ lg, m.log2 = lg := ⟨_, rfl⟩
  have hm1 : 2 ^ lg ≤ m := by rw [← hlg]; exact Nat.log2_self_le hm0
  have hfb : double.fractionBits + 2 = 54 := by decide
  rw [hfb, root_eq 54 m _ hm0, hlg]
  rw [hlg] at hlm
  obtain ⟨more, hmore⟩ : ∃ more, 2 * 54 - lg + ((-1074 + (p : Int) - (2 * 54 - lg : Nat)) % 2).toNat = more := ⟨_, rfl⟩
  rw [hmore]
  have hmr : more = 108 - lg ∨ more = 109 - lg := by omega
  have heven : (-1074 + (p : Int) - (more : Nat)) % 2 = 0 := by omega
  obtain ⟨E, hE⟩ : ∃ E, (-1074 + (p : Int) - (more : Nat)) / 2 = E := ⟨_, rfl⟩
  have hE2 : 2 * E = -1074 + (p : Int) - more := by omega
  rw [hE, Nat.shiftLeft_eq]
  obtain ⟨N, hN⟩ : ∃ N, m * 2 ^ more = N := ⟨_, rfl⟩
  rw [hN]
  obtain ⟨w, hw⟩ : ∃ w, Datum.rootFrom N (N.log2 / 2 + 1) 0 = w := ⟨_, rfl⟩
  obtain ⟨w1, w2⟩ := root_spec hw
  rw [hw]
  have hNl : 2 ^ 108 ≤ N := by
    rw [← hN]
    have a : 2 ^ lg * 2 ^ more ≤ m * 2 ^ more := Nat.mul_le_mul_right _ hm1
    have b : 2 ^ 108 ≤ 2 ^ lg * 2 ^ more := by rw [← Nat.pow_add]; exact Nat.pow_le_pow_right (by decide) (by omega)
    omega
  have hw53 : 2 ^ 53 ≤ w := by
    have := sq_lt (a := 2 ^ 53) (b := w + 1) (by omega)
    omega
  obtain ⟨t, ht⟩ : ∃ t : Nat, k = more + 2 * t := ⟨(k - more) / 2, by omega⟩
  have e1 : m * 2 ^ k = N * 4 ^ t := by
    rw [← hN, ht, Nat.pow_add, show (4 : Nat) = 2 ^ 2 from rfl, ← Nat.pow_mul, Nat.mul_assoc]
  rw [e1] at h1 h2 ⊢
  obtain ⟨q1, q2⟩ := root_many (p := E) w1 w2 hw53 t r h1 h2
  refine ⟨q1, ?_⟩
  have e2 : (-1074 + (p : Int) - (k : Nat)) / 2 = E - t := by omega
  rw [e2]
  show opt (some (double.write (.number false _ _))) = _
  rw [write_num, opt_round]
  unfold roundW
  rw [q2]

/-- The sign. -/
def sgnW (a : Nat) : Nat := if nanW a then theNaN else if rung a = 0 then a else if isNeg a then 13830554455654793216 else 4607182418800017408
end Go.Proofs.YtoodbdjmbicaeaaGreatDoor
end
