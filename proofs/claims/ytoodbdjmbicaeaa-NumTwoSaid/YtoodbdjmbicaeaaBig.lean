/- Whole numbers as words of 32 bits, the lowest first, none 0 at the end. No condition. -/
import Derived.Test.YtoodbdjmbicaeaaFlt
namespace Go.Proofs.Ytoodbdjmbicaeaa

/-- What words stand for. -/
def num : List Nat → Nat
  | [] => 0
  | x :: l => x + 4294967296 * num l
def OkL (l : List Nat) : Prop := ∀ x ∈ l, x < 4294967296
/-- A number's words. -/
def dig (n : Nat) : List Nat := if n = 0 then [] else n % 4294967296 :: dig (n / 4294967296)
termination_by n
decreasing_by omega
def size (n : Nat) : Nat := if n = 0 then 0 else n.log2 + 1

theorem b_pow (i : Nat) : 4294967296 ^ i = 2 ^ (32 * i) := by
  exact (Nat.pow_mul 2 32 i).symm
theorem b_pos (i : Nat) : 0 < 4294967296 ^ i := by rw [b_pow]; exact Nat.two_pow_pos _
theorem b_succ (i : Nat) : 4294967296 ^ (i + 1) = 4294967296 ^ i * 4294967296 := Nat.pow_succ 4294967296 i
theorem num_append (l m : List Nat) : num (l ++ m) = num l + num m * 4294967296 ^ l.length := by
  induction l with
  | nil => simp [num]
  | cons x l ih =>
    rw [List.cons_append, num, num, ih, List.length_cons, b_succ, Nat.mul_add, ← Nat.add_assoc]
    congr 1
    rw [Nat.mul_comm 4294967296, Nat.mul_assoc]
theorem num_one (l : List Nat) (x : Nat) : num (l ++ [x]) = num l + x * 4294967296 ^ l.length := by
  rw [num_append]; simp [num]
theorem num_lt {l : List Nat} (h : OkL l) : num l < 4294967296 ^ l.length := by
  induction l with
  | nil => simp [num]
  | cons x l ih =>
    have h1 := ih (fun y hy => h y (List.mem_cons_of_mem _ hy))
    have h2 := h x List.mem_cons_self
    rw [num, List.length_cons, b_succ]
    omega
theorem OkL.append {l m : List Nat} (h : OkL l) (k : OkL m) : OkL (l ++ m) := by
  intro x hx
  rcases List.mem_append.1 hx with hx | hx
  · exact h x hx
  · exact k x hx
theorem OkL.one {l : List Nat} {x : Nat} (h : OkL l) (k : x < 4294967296) : OkL (l ++ [x]) :=
  h.append (fun y hy => by rw [List.mem_singleton] at hy; omega)
theorem dig_zero : dig 0 = [] := by rw [dig, if_pos rfl]
theorem dig_pos {n : Nat} (h : n ≠ 0) : dig n = n % 4294967296 :: dig (n / 4294967296) := by rw [dig, if_neg h]
theorem num_dig (n : Nat) : num (dig n) = n := by
  induction n using Nat.strongRecOn with
  | ind n ih =>
    by_cases h : n = 0
    · rw [h, dig_zero]; rfl
    · rw [dig_pos h, num, ih (n / 4294967296) (by omega)]
      omega
theorem dig_ok (n : Nat) : OkL (dig n) := by
  induction n using Nat.strongRecOn with
  | ind n ih =>
    by_cases h : n = 0
    · rw [h, dig_zero]; intro x hx; cases hx
    · rw [dig_pos h]
      intro x hx
      rcases List.mem_cons.1 hx with hx | hx
      · omega
      · exact ih (n / 4294967296) (by omega) x hx
theorem dig_last (n : Nat) : ∀ h : dig n ≠ [], (dig n).getLast h ≠ 0 := by
  induction n using Nat.strongRecOn with
  | ind n ih =>
    intro h
    by_cases h0 : n = 0
    · exact absurd (by rw [h0]; exact dig_zero) h
    · by_cases h1 : n / 4294967296 = 0
      · have e : dig n = [n % 4294967296] := by rw [dig_pos h0, h1, dig_zero]
        simp only [e, List.getLast_singleton]
        omega
      · have h2 : dig (n / 4294967296) ≠ [] := by rw [dig_pos h1]; simp
        have e := dig_pos h0
        simp only [e, List.getLast_cons h2]
        exact ih (n / 4294967296) (by omega) h2
theorem dig_of {l : List Nat} (h : OkL l) (hl : ∀ h : l ≠ [], l.getLast h ≠ 0) : dig (num l) = l := by
  induction l with
  | nil => exact dig_zero
  | cons x l ih =>
    have hx := h x List.mem_cons_self
    have ho : OkL l := fun y hy => h y (List.mem_cons_of_mem _ hy)
    by_cases he : l = []
    · subst he
      have := hl (by simp)
      simp only [List.getLast_singleton] at this
      rw [num, num, dig_pos (by omega)]
      rw [show (x + 4294967296 * 0) % 4294967296 = x by omega, show (x + 4294967296 * 0) / 4294967296 = 0 by omega, dig_zero]
    · have h2 : ∀ h : l ≠ [], l.getLast h ≠ 0 := by
        intro hh
        have := hl (by simp)
        rw [List.getLast_cons hh] at this
        exact this
      have h3 := ih ho h2
      have h4 : num l ≠ 0 := by
        intro h5
        rw [h5, dig_zero] at h3
        exact he h3.symm
      rw [num, dig_pos (by omega)]
      rw [show (x + 4294967296 * num l) % 4294967296 = x by omega, show (x + 4294967296 * num l) / 4294967296 = num l by omega, h3]
theorem get_num {l : List Nat} (h : OkL l) : ∀ (i : Nat) (hi : i < l.length), l[i] = num l / 4294967296 ^ i % 4294967296 := by
  induction l with
  | nil => intro i hi; simp at hi
  | cons x l ih =>
    have hx := h x List.mem_cons_self
    intro i hi
    cases i with
    | zero => simp only [List.getElem_cons_zero, num, Nat.pow_zero, Nat.div_one]; omega
    | succ i =>
      rw [List.getElem_cons_succ, ih (fun y hy => h y (List.mem_cons_of_mem _ hy)) i (by simpa using hi), num, b_succ, Nat.mul_comm (4294967296 ^ i), ← Nat.div_div_eq_div_mul]
      congr 2
      omega
theorem dig_get {n i : Nat} (hi : i < (dig n).length) : (dig n)[i] = n / 4294967296 ^ i % 4294967296 := by
  rw [get_num (dig_ok n) i hi, num_dig]
theorem dig_lt (n : Nat) : n < 4294967296 ^ (dig n).length := by
  have := num_lt (dig_ok n)
  rw [num_dig] at this
  exact this
theorem dig_ge {n : Nat} (h : n ≠ 0) : 0 < (dig n).length ∧ 4294967296 ^ ((dig n).length - 1) ≤ n := by
  have h1 : dig n ≠ [] := by rw [dig_pos h]; simp
  have h0 : 0 < (dig n).length := List.length_pos_iff.2 h1
  refine ⟨h0, ?_⟩
  have h2 := dig_last n h1
  rw [List.getLast_eq_getElem, dig_get (by omega)] at h2
  refine Nat.le_of_not_lt fun h3 => h2 ?_
  rw [Nat.div_eq_of_lt h3]
theorem dig_len_le {n k : Nat} (h : n < 4294967296 ^ k) : (dig n).length ≤ k := by
  by_cases h0 : n = 0
  · rw [h0, dig_zero]; exact Nat.zero_le _
  · obtain ⟨h1, h2⟩ := dig_ge h0
    refine Nat.le_of_not_lt fun h3 => ?_
    have : 4294967296 ^ k ≤ 4294967296 ^ ((dig n).length - 1) := Nat.pow_le_pow_right (by decide) (by omega)
    omega
/-- Of one length, words that stand for one number are the same. -/
theorem num_inj {l m : List Nat} (hl : OkL l) (hm : OkL m) (hlen : l.length = m.length) (h : num l = num m) : l = m := by
  apply List.ext_getElem hlen
  intro i h1 h2
  rw [get_num hl i h1, get_num hm i h2, h]
/-- A nought at the end falls. -/
theorem num_drop {l : List Nat} (h : l ≠ []) (h0 : l.getLast h = 0) : num l.dropLast = num l := by
  have e := List.dropLast_concat_getLast h
  conv => rhs; rw [← e]
  rw [num_one, h0, Nat.zero_mul, Nat.add_zero]
theorem OkL.dropLast {l : List Nat} (h : OkL l) : OkL l.dropLast := fun x hx => h x ((List.dropLast_sublist l).subset hx)

theorem size_le {n j : Nat} : size n ≤ j ↔ n < 2 ^ j := by
  unfold size
  by_cases h : n = 0
  · rw [if_pos h, h]
    have := Nat.two_pow_pos j
    constructor <;> intro _ <;> omega
  · rw [if_neg h]
    have := Nat.log2_lt (k := j) h
    omega
theorem size_zero : size 0 = 0 := rfl
/-- The bits of a number, out of its greatest word. -/
theorem size_dig {n : Nat} (h : n ≠ 0) : size n = 32 * ((dig n).length - 1) + size (n / 4294967296 ^ ((dig n).length - 1)) := by
  obtain ⟨h1, h2⟩ := dig_ge h
  obtain ⟨L, hL⟩ : ∃ L, (dig n).length - 1 = L := ⟨_, rfl⟩
  rw [hL] at h2 ⊢
  rw [b_pow] at h2 ⊢
  have hp := Nat.two_pow_pos (32 * L)
  apply Nat.le_antisymm
  · rw [size_le, Nat.add_comm, Nat.pow_add]
    have h3 : n / 2 ^ (32 * L) < 2 ^ size (n / 2 ^ (32 * L)) := size_le.1 (Nat.le_refl _)
    exact (Nat.div_lt_iff_lt_mul hp).1 h3
  · refine Nat.le_of_not_lt fun h3 => ?_
    have hn : n < 2 ^ size n := size_le.1 (Nat.le_refl _)
    have h4 : 32 * L ≤ size n := by
      refine Nat.le_of_not_lt fun h5 => ?_
      have : 2 ^ size n ≤ 2 ^ (32 * L) := Nat.pow_le_pow_right (by decide) (by omega)
      omega
    have h5 : n / 2 ^ (32 * L) < 2 ^ (size n - 32 * L) := by
      rw [Nat.div_lt_iff_lt_mul hp, ← Nat.pow_add, show size n - 32 * L + 32 * L = size n by omega]
      exact hn
    have := size_le.2 h5
    omega
end Go.Proofs.Ytoodbdjmbicaeaa
