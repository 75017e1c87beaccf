/- Short names of the operations; less, above, below; a sign taken over; powers of two. No condition. -/
import Derived.Test.YtoodbdjmbicaeaaGreatDoorGm3
namespace Go.Proofs.YtoodbdjmbicaeaaGreatDoor
open Go.RowKit
set_option maxRecDepth 8000
set_option maxHeartbeats 1000000
set_option linter.unusedVariables false
set_option linter.unusedSimpArgs false

def dA (a b : Nat) : Nat := opt (Ieee.double.add a b)
def dS (a b : Nat) : Nat := opt (Ieee.double.sub a b)
def dM (a b : Nat) : Nat := opt (Ieee.double.mul a b)
def dD (a b : Nat) : Nat := opt (Ieee.double.div a b)
def dQ (a : Nat) : Nat := opt (Ieee.double.sqrt a)
def flW (a : Nat) : Nat := wayV .down a
theorem dA_lt (a b : Nat) : dA a b < 2 ^ 64 := opt_lt fun r h => Ieee.double.add_lt h
theorem dS_lt (a b : Nat) : dS a b < 2 ^ 64 := opt_lt fun r h => Ieee.double.sub_lt h
theorem dM_lt (a b : Nat) : dM a b < 2 ^ 64 := opt_lt fun r h => Ieee.double.mul_lt h
theorem dD_lt (a b : Nat) : dD a b < 2 ^ 64 := opt_lt fun r h => Ieee.double.div_lt h
theorem dQ_lt (a : Nat) : dQ a < 2 ^ 64 := opt_lt fun r h => Ieee.double.sqrt_lt h
theorem flW_lt {a : Nat} (ha : a < 2 ^ 64) : flW a < 2 ^ 64 := wayV_lt (by decide) ha
theorem intW_lt (n : Int) : intW n < 2 ^ 64 := by
  unfold intW
  have := infR_lt
  exact word_lt' (by omega)
theorem absV_lt {a : Nat} (ha : a < 2 ^ 64) : absV a < 2 ^ 64 := by
  unfold absV bitsW
  split
  · exact theNaN_lt
  · exact Nat.lt_trans (Nat.mod_lt _ (by decide)) (by decide)
theorem kA (a b : Nat) (w : World) : Kn 12 #[wd a, wd b] w (wd (dA a b)) := kadd a b w
theorem kS (a b : Nat) (w : World) : Kn 44 #[wd a, wd b] w (wd (dS a b)) := ksub a b w
theorem kM (a b : Nat) (w : World) : Kn 27 #[wd a, wd b] w (wd (dM a b)) := kmul a b w
theorem kD (a b : Nat) (w : World) : Kn 13 #[wd a, wd b] w (wd (dD a b)) := kdiv a b w
theorem kQ (a : Nat) (w : World) : Kn 14 #[wd a] w (wd (dQ a)) := ksqrt a w
theorem kFl (a : Nat) (w : World) : Kn 61 #[wd a] w (wd (flW a)) := kfloor a w
theorem rA {a b : Nat} (ha : a < 2 ^ 64) (hb : b < 2 ^ 64) (w : World) : Kb 48 #[wd a, wd b] w (wd (dA a b)) := kradd ha hb w
theorem rS {a b : Nat} (ha : a < 2 ^ 64) (hb : b < 2 ^ 64) (w : World) : Kb 49 #[wd a, wd b] w (wd (dS a b)) := krsub ha hb w
theorem rM {a b : Nat} (ha : a < 2 ^ 64) (hb : b < 2 ^ 64) (w : World) : Kb 39 #[wd a, wd b] w (wd (dM a b)) := krmul ha hb w
theorem rD {a b : Nat} (ha : a < 2 ^ 64) (hb : b < 2 ^ 64) (w : World) : Kb 40 #[wd a, wd b] w (wd (dD a b)) := krdiv ha hb w
theorem rFl {a : Nat} (ha : a < 2 ^ 64) (w : World) : Kb 80 #[wd a] w (wd (flW a)) := krfloor ha w

/-- The first is below the second. -/
def ltB (a b : Nat) : Bool := FloatKind.f64.format.order a b == some .lt
theorem ltB_cmp (a b : Nat) : ltB a b = decide (0 < cmpC b a) := lt_ord.1
theorem knless (a b : Nat) (w : World) : Kp 23 #[wd a, wd b] w (.bool (ltB a b)) := by
  obtain ⟨t, ht⟩ : ∃ t, ltB a b = t := ⟨_, rfl⟩
  rw [ht]
  have h' : (FloatKind.f64.format.order a b == some .lt) = t := ht
  clear ht
  go_enter Tryz.func23, Tryz.ntmps23
  go_wp2_with (go_at_call 19; refine (kof _ _).mono ?_; rintro e wz ⟨rfl, hw1⟩; have hw2 := hw1.symm; clear hw1; subst hw2)
  go_ret
  exact ⟨rfl, rfl⟩
theorem krabove0 (a b : Nat) (w : World) (Z : Int) (k t : Bool) (kc : Kb 36 #[wd a, wd b] w (.tuple #[.int .i64 Z, .bool k])) (h : (k = false ∧ t = false) ∨ (k = true ∧ 0 < Z ∧ t = true) ∨ (k = true ∧ ¬ 0 < Z ∧ t = false)) : Kb 33 #[wd a, wd b] w (.bool t) := by
  have KC := Lib.hid kc
  clear kc
  rcases h with ⟨h1, h2⟩ | ⟨h1, hz, h2⟩ | ⟨h1, hz, h2⟩
  all_goals
    subst h1 h2
    go_enter Tryz.func33, Tryz.ntmps33
    go_wp2_with (go_at_call 36; refine (KC.out).mono ?_; rintro e wk ⟨rfl, bk⟩; have BL := Lib.hid bk; clear bk)
    go_ret
    first
      | exact ⟨rfl, BL.out⟩
      | exact ⟨by show Ending.returned (.bool (decide (0 < Z))) = _; rw [decide_eq_true hz], BL.out⟩
      | exact ⟨by show Ending.returned (.bool (decide (0 < Z))) = _; rw [decide_eq_false (by omega)], BL.out⟩
theorem krabove {a b : Nat} (ha : a < 2 ^ 64) (hb : b < 2 ^ 64) (w : World) : Kb 33 #[wd a, wd b] w (.bool (ltB b a)) := by
  refine krabove0 a b w _ _ _ (krCmp ha hb w) ?_
  rw [ltB_cmp]
  cases hk : cmpK a b
  · refine .inl ⟨rfl, ?_⟩
    have hn : nanW a = true ∨ nanW b = true := by
      cases na : nanW a
      · cases nb : nanW b
        · rw [(cmp_not na nb).2] at hk; cases hk
        · exact .inr rfl
      · exact .inl rfl
    rw [(cmp_nan hn).1]; rfl
  · by_cases hz : 0 < cmpC a b
    · exact .inr (.inl ⟨rfl, hz, decide_eq_true hz⟩)
    · exact .inr (.inr ⟨rfl, hz, decide_eq_false hz⟩)
theorem krbelow {a b : Nat} (ha : a < 2 ^ 64) (hb : b < 2 ^ 64) (w : World) : Kb 47 #[wd a, wd b] w (.bool (ltB a b)) := by
  go_enter Tryz.func47, Tryz.ntmps47
  go_wp2_with (go_at_call 33; refine (krabove hb ha _).mono ?_; rintro e wk ⟨rfl, bk⟩; have BL := Lib.hid bk; clear bk)
  go_ret
  exact ⟨rfl, BL.out⟩
/-- One word with another one's sign. -/
def sgnd (x a : Nat) : Nat := if isNeg a then negV x else x
theorem sgnd_lt {x a : Nat} (hx : x < 2 ^ 64) : sgnd x a < 2 ^ 64 := by
  unfold sgnd
  split
  · exact negV_lt hx
  · exact hx
theorem ksigned {x a : Nat} (hx : x < 2 ^ 64) (ha : a < 2 ^ 64) (w : World) : Kp 45 #[wd x, wd a] w (wd (sgnd x a)) := by
  unfold sgnd
  cases hs : isNeg a
  · rw [if_neg (by decide)]
    go_enter Tryz.func45, Tryz.ntmps45
    go_wp2_with (first
      | (go_at_call 24; refine (knegative ha _).mono ?_; rintro e wz ⟨rfl, hw1⟩; have hw2 := hw1.symm; clear hw1; subst hw2)
      | (go_at_call 83; refine (kneg hx _).mono ?_; rintro e wz ⟨rfl, hw1⟩; have hw2 := hw1.symm; clear hw1; subst hw2))
    go_ret
    exact ⟨rfl, rfl⟩
  · rw [if_pos rfl]
    go_enter Tryz.func45, Tryz.ntmps45
    go_wp2_with (first
      | (go_at_call 24; refine (knegative ha _).mono ?_; rintro e wz ⟨rfl, hw1⟩; have hw2 := hw1.symm; clear hw1; subst hw2)
      | (go_at_call 83; refine (kneg hx _).mono ?_; rintro e wz ⟨rfl, hw1⟩; have hw2 := hw1.symm; clear hw1; subst hw2))
    go_ret
    exact ⟨rfl, rfl⟩
theorem krsigned {x a : Nat} (hx : x < 2 ^ 64) (ha : a < 2 ^ 64) (w : World) : Kp 51 #[wd x, wd a] w (wd (sgnd x a)) := by
  unfold sgnd
  cases hs : isNeg a
  · rw [if_neg (by decide)]
    go_enter Tryz.func51, Tryz.ntmps51
    go_wp2_with (first
      | (go_at_call 37; refine (krNeg0 ha _).mono ?_; rintro e wz ⟨rfl, hw1⟩; have hw2 := hw1.symm; clear hw1; subst hw2)
      | (go_at_call 50; refine (krneg hx _).mono ?_; rintro e wz ⟨rfl, hw1⟩; have hw2 := hw1.symm; clear hw1; subst hw2))
    go_ret
    exact ⟨rfl, rfl⟩
  · rw [if_pos rfl]
    go_enter Tryz.func51, Tryz.ntmps51
    go_wp2_with (first
      | (go_at_call 37; refine (krNeg0 ha _).mono ?_; rintro e wz ⟨rfl, hw1⟩; have hw2 := hw1.symm; clear hw1; subst hw2)
      | (go_at_call 50; refine (krneg hx _).mono ?_; rintro e wz ⟨rfl, hw1⟩; have hw2 := hw1.symm; clear hw1; subst hw2))
    go_ret
    exact ⟨rfl, rfl⟩
/-- Two to the k. -/
def powW (k : Int) : Nat := Ieee.double.word false (min (rnd 1 k) infR)
theorem powW_lt (k : Int) : powW k < 2 ^ 64 := word_lt' (Nat.lt_of_le_of_lt (Nat.min_le_right _ _) infR_lt)
theorem one_mg : mg (rung 4607182418800017408) = 2 ^ 52 ∧ pl (rung 4607182418800017408) = 1022 ∧ isNeg 4607182418800017408 = false := by decide
theorem ld_pow (k : Int) : ldW 4607182418800017408 k = powW k := by
  obtain ⟨h1, h2, h3⟩ := one_mg
  unfold ldW powW
  rw [h1, h2, h3]
  obtain ⟨D, hD⟩ : ∃ D : Nat, (0 : Int) ≤ k + 1022 + D := ⟨(-(k + 1022)).toNat, by omega⟩
  obtain ⟨P, hP⟩ : ∃ P : Nat, k + 1022 + D = (P : Int) := ⟨(k + 1022 + D).toNat, by omega⟩
  rw [rnd_same (m := 2 ^ 52) (m' := 1) (p := -1074 + ((1022 : Nat) : Int) + k) (p' := k) D P (52 + P) (by omega) (by omega) (by rw [Nat.pow_add, Nat.one_mul])]
theorem powW_bits (k : Int) : bitsW (powW k) = powW k := bitsW_of (nan_word (Nat.min_le_right _ _))
theorem kpower {k : Int} (hk : -5000 ≤ k ∧ k ≤ 5000) (w : World) : Kn 64 #[.int .i64 k] w (wd (powW k)) := by
  have K := Lib.hid (kldexp (x := 4607182418800017408) (n := k) (by decide) (by decide) (by decide) (by omega) w)
  have hb := powW_bits k
  rw [ld_pow] at K
  obtain ⟨R, hR⟩ : ∃ R, powW k = R := ⟨_, rfl⟩
  rw [hR] at K hb ⊢
  clear hR
  go_enter Tryz.func64, Tryz.ntmps64
  go_wp2_with (first
    | (go_at_call 93; refine (K.out).mono ?_; rintro e wk ⟨rfl, nk, hw1⟩; subst hw1)
    | (go_at_call 53; refine (kbits _ _).mono ?_; rintro e wz ⟨rfl, hw1⟩; have hw2 := hw1.symm; clear hw1; subst hw2))
  go_ret
  exact ⟨by simp only [hb]; rfl, nk, rfl⟩
theorem pow_round (k : Int) : Ieee.double.word false (min (rnd (2 * 1 + false.toNat) (k - 1)) infR) = powW k := by
  unfold powW
  rw [Bool.toNat_false, Nat.add_zero, rnd_double]
theorem krpower {k : Int} (hk : -5000 ≤ k ∧ k ≤ 5000) (w : World) : Kb 35 #[.int .i64 k] w (wd (powW k)) := by
  have hp := pow_round k
  obtain ⟨R, hR⟩ : ∃ R, powW k = R := ⟨_, rfl⟩
  rw [hR] at hp ⊢
  have HP := Lib.hid hp
  obtain ⟨base, hbase⟩ : ∃ base, w.heap.size = base := ⟨_, rfl⟩
  clear hR hp
  go_enter Tryz.func35, Tryz.ntmps35
  go_wp2_with (first
    | (go_at_call 69; refine (kfrom (n := 1) (by decide) _).mono ?_; rintro e w3 ⟨p3, rfl, k3, b3⟩; rw [hbase] at k3 b3; have K3 := Lib.hid k3; have B3 := Lib.hid b3; clear k3 b3)
    | (go_at_call 68; refine (kround false k false K3.out (Nat.le_trans (dig_len (k := 2) (by decide)) (by decide)) hk (by intro hh; cases hh)).mono ?_; rw [HP.out]; rintro e w5 ⟨rfl, b5⟩; have B5 := Lib.hid (B3.out.trans (b5.mono (by have := B3.out.size; omega))); clear b5))
  go_ret
  exact ⟨rfl, by rw [hbase]; exact B5.out⟩
end Go.Proofs.YtoodbdjmbicaeaaGreatDoor
