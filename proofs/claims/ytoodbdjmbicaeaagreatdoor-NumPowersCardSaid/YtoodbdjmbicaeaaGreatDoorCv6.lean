/- Logarithms, of both texts. No condition. -/
import Derived.Test.YtoodbdjmbicaeaaGreatDoorCv3
namespace Go.Proofs.YtoodbdjmbicaeaaGreatDoor
open Go.RowKit
set_option maxRecDepth 20000
set_option maxHeartbeats 2000000
set_option linter.unusedVariables false
set_option linter.unusedSimpArgs false

def lnf (m : Nat) : Nat := dD (dS m 4607182418800017408) (dA m 4607182418800017408)
def lnR (s : Nat) : Nat := rowN (lnF s) 2 11 21 (dD 4607182418800017408 (intW 23))
def lnC (m : Nat) (e : Int) : Nat := dA (dM (intW e) 4604418534311723008) (dA (dM (dM 4611686018427387904 (lnf m)) (lnR (dM (lnf m) (lnf m)))) (dM (intW e) 4461442080421002358))
def lnB (m : Nat) (e : Int) : Nat := if ltB m 4604544271217802189 then lnC (dM 4611686018427387904 m) (e - 1) else lnC m e
def lnE (a : Nat) : Int := (lgv (rung a) : Int) - 1073
def lnW (a : Nat) : Nat := if nanW a then theNaN else if zeroW a then 18442240474082181120 else if isNeg a then theNaN else if isInfW a then a else lnB (fracW a) (lnE a)
def posF (a : Nat) : Bool := !nanW a && !zeroW a && !isNeg a && !isInfW a
def log2W (a : Nat) : Nat := if posF a && (frv (rung a) == 0) then intW (lnE a - 1) else dD (lnW a) 4604418534313441775
def log10W (a : Nat) : Nat := dD (lnW a) 4612367379483415830
theorem lnF_lt (s p i : Nat) : lnF s p i < 2 ^ 64 := dA_lt _ _
theorem lnR_lt (s : Nat) : lnR s < 2 ^ 64 := rowN_lt (lnF_lt _) _ _ _ _ (dD_lt _ _)
theorem lnC_lt (m : Nat) (e : Int) : lnC m e < 2 ^ 64 := dA_lt _ _
theorem lnB_lt (m : Nat) (e : Int) : lnB m e < 2 ^ 64 := by
  unfold lnB
  split
  · exact lnC_lt _ _
  · exact lnC_lt _ _
theorem lnW_lt {a : Nat} (ha : a < 2 ^ 64) : lnW a < 2 ^ 64 := by
  unfold lnW
  split
  · exact theNaN_lt
  · split
    · decide
    · split
      · exact theNaN_lt
      · split
        · exact ha
        · exact lnB_lt _ _
theorem log2W_lt (a : Nat) : log2W a < 2 ^ 64 := by
  unfold log2W
  split
  · exact intW_lt _
  · exact dD_lt _ _
theorem log10W_lt (a : Nat) : log10W a < 2 ^ 64 := dD_lt _ _
/-- What Go asks of a number's sign. -/
theorem zero_eq {a : Nat} (na : nanW a = false) : (FloatKind.f64.format.order a 0 == some .eq) = zeroW a := by
  by_cases h : rung a = 0
  · rw [isZ h]; unfold zeroW; rw [h]; rfl
  · rw [eqZero na h]; unfold zeroW; exact (by simpa using h : (rung a == 0) = false).symm
theorem gt_zero {a : Nat} (na : nanW a = false) : (FloatKind.f64.format.order a 0 == some .gt) = (!zeroW a && !isNeg a) := by
  by_cases h : rung a = 0
  · rw [(ord_zero na).1 h]; unfold zeroW; rw [h]; rfl
  · have hz : zeroW a = false := by unfold zeroW; simpa using h
    rw [hz]
    cases hs : isNeg a
    · rw [(ord_zero na).2.2 h hs]; rfl
    · rw [(ord_zero na).2.1 h hs]; rfl
theorem gt_nan {a : Nat} (na : nanW a = true) : (FloatKind.f64.format.order a 0 == some .gt) = false := by
  have : FloatKind.f64.format.order a 0 = none := order_nan (.inl (of_decide_eq_true na))
  rw [this]; rfl
theorem fin_of {a : Nat} (na : nanW a = false) (ia : isInfW a = false) (za : zeroW a = false) : rung a < infR ∧ rung a ≠ 0 := by
  have h1 := nan_false na
  have h2 : rung a ≠ infR := by unfold isInfW at ia; simpa using ia
  have h3 : rung a ≠ 0 := by unfold zeroW at za; simpa using za
  exact ⟨by omega, h3⟩
theorem frac_fit {a : Nat} (na : nanW a = false) (ia : isInfW a = false) (za : zeroW a = false) : bitsW (fracW a) = fracW a ∧ fracW a < 2 ^ 64 ∧ -1074 ≤ lnE a ∧ lnE a ≤ 1024 := by
  obtain ⟨h1, h2⟩ := fin_of na ia za
  obtain ⟨_, _, _, _, h5, h6⟩ := nr_spec h2 h1
  have hi := infR_eq
  obtain ⟨G, hG⟩ : ∃ G, 1022 * 2 ^ 52 + frv (rung a) = G := ⟨_, rfl⟩
  have hl : G ≤ infR := by omega
  have hI := infR_lt
  have hL : G < 2 ^ 63 := by omega
  unfold fracW lnE
  rw [hG]
  refine ⟨bitsW_of (nan_word hl), word_lt' hL, ?_, ?_⟩
  · clear hl hI hL hG h5 hi h1 h2; omega
  · clear hl hI hL hG h5 hi h1 h2; omega
/-- The document's mantissa and exponent. -/
theorem frac_ref {a : Nat} (na : nanW a = false) (ia : isInfW a = false) (za : zeroW a = false) (sa : isNeg a = false) :
    (size (mg (rung a)) : Int) + (-1074 + (pl (rung a) : Int)) = lnE a ∧ Ieee.double.word false (min (rnd (2 * mg (rung a) + false.toNat) (-(size (mg (rung a)) : Int) - 1)) infR) = fracW a := by
  obtain ⟨h1, h2⟩ := fin_of na ia za
  obtain ⟨_, _, _, _, h5, h6⟩ := nr_spec h2 h1
  have hi := infR_eq
  have hm : mg (rung a) ≠ 0 := by
    intro h
    have := val_pos h2
    unfold val at this
    rw [h, Nat.zero_mul] at this
    exact this rfl
  have hl : lgv (rung a) = (mg (rung a)).log2 + pl (rung a) := by
    unfold lgv val
    rw [Nat.log2_eq_iff (Nat.mul_ne_zero hm (Nat.ne_of_gt (Nat.two_pow_pos _)))]
    have h3 := Nat.log2_self_le hm
    have h4 := @Nat.lt_log2_self (mg (rung a))
    rw [show (mg (rung a)).log2 + pl (rung a) + 1 = (mg (rung a)).log2 + 1 + pl (rung a) by omega, Nat.pow_add, Nat.pow_add]
    exact ⟨Nat.mul_le_mul_right _ h3, Nat.mul_lt_mul_of_pos_right h4 (Nat.two_pow_pos _)⟩
  have hs : size (mg (rung a)) = (mg (rung a)).log2 + 1 := by unfold size; rw [if_neg hm]
  refine ⟨by unfold lnE; omega, ?_⟩
  rw [Bool.toNat_false, Nat.add_zero, rnd_double]
  have h7 := ld_mid (n := 1073 - (lgv (rung a) : Int)) (L := 1021) h2 h5 (by omega)
  rw [show (-(size (mg (rung a)) : Int)) = -1074 + (pl (rung a) : Int) + (1073 - (lgv (rung a) : Int)) by omega, h7]
  unfold fracW
  have h8 : 1021 * 2 ^ 52 + (2 ^ 52 + frv (rung a)) = 1022 * 2 ^ 52 + frv (rung a) := by omega
  rw [sa, h8, Nat.min_eq_left (by omega)]
/-- A power of two, by its magnitude. -/
theorem pow_iff {r k n : Nat} (h0 : r ≠ 0) (h : mg r = 2 ^ k * n) (hn : n % 2 = 1) : (frv r = 0 ↔ n = 1) ∧ (n = 1 → lgv r = k + pl r) := by
  have hv : val r = 2 ^ (k + pl r) * n := by unfold val; rw [h, Nat.pow_add, Nat.mul_right_comm]
  have hm := man_val h0
  have e1 : n = 1 → lgv r = k + pl r := fun h1 => by
    unfold lgv
    rw [hv, h1, Nat.mul_one, Nat.log2_two_pow]
  refine ⟨⟨fun hf => ?_, fun h1 => ?_⟩, e1⟩
  · rw [hf, Nat.add_zero, Nat.mul_comm] at hm
    have h2 := Nat.eq_of_mul_eq_mul_right (Nat.two_pow_pos 52) hm
    rw [hv] at h2
    by_cases hlt : k + pl r < lgv r
    · obtain ⟨j, hj⟩ : ∃ j, lgv r = k + pl r + (j + 1) := ⟨lgv r - (k + pl r) - 1, by omega⟩
      rw [hj, Nat.pow_add] at h2
      have h3 := Nat.eq_of_mul_eq_mul_left (Nat.two_pow_pos _) h2
      rw [Nat.pow_succ] at h3
      omega
    · have h3 : 2 ^ lgv r ≤ 2 ^ (k + pl r) := Nat.pow_le_pow_right (by decide) (by omega)
      have h4 : 2 ^ (k + pl r) * 1 ≤ 2 ^ (k + pl r) * n := Nat.mul_le_mul_left _ (by omega)
      have h5 : 2 ^ (k + pl r) * n ≤ 2 ^ (k + pl r) * 1 := by omega
      have h6 := Nat.le_of_mul_le_mul_left h5 (Nat.two_pow_pos _)
      omega
  · rw [hv, h1, Nat.mul_one, ← e1 h1, Nat.mul_comm (2 ^ lgv r)] at hm
    have := Nat.eq_of_mul_eq_mul_right (Nat.two_pow_pos _) hm
    omega
theorem half_eq {a : Nat} (na : nanW a = false) (ia : isInfW a = false) (za : zeroW a = false) (sa : isNeg a = false) : (FloatKind.f64.format.order (fracW a) 4602678819172646912 == some .eq) = (frv (rung a) == 0) := by
  obtain ⟨h1, h2⟩ := fin_of na ia za
  obtain ⟨_, _, _, _, h5, h6⟩ := nr_spec h2 h1
  have hi := infR_eq
  have hl : 1022 * 2 ^ 52 + frv (rung a) ≤ infR := by omega
  have hI := infR_lt
  unfold fracW
  rw [sa]
  have r1 : rung (Ieee.double.word false (1022 * 2 ^ 52 + frv (rung a))) = 1022 * 2 ^ 52 + frv (rung a) := rung_word (by omega)
  have r2 : rung 4602678819172646912 = 1022 * 2 ^ 52 := by decide
  have s1 : isNeg (Ieee.double.word false (1022 * 2 ^ 52 + frv (rung a))) = false := isNeg_word (by omega)
  show (Ieee.double.order _ _ == some .eq) = _
  rw [order_eq (by rw [r1]; omega) (by rw [r2]; omega)]
  have i1 : ival (Ieee.double.word false (1022 * 2 ^ 52 + frv (rung a))) = val (1022 * 2 ^ 52 + frv (rung a)) := by unfold ival; rw [s1, r1]; rfl
  have i2 : ival 4602678819172646912 = val (1022 * 2 ^ 52) := by unfold ival; rw [if_neg (by decide), r2]
  rw [i1, i2]
  show (some (compareOfLessAndEq (val (1022 * 2 ^ 52 + frv (rung a)) : Int) (val (1022 * 2 ^ 52) : Int)) == some .eq) = _
  unfold compareOfLessAndEq
  have hle : val (1022 * 2 ^ 52) ≤ val (1022 * 2 ^ 52 + frv (rung a)) := val_le (by omega)
  rw [if_neg (by omega)]
  by_cases hf : frv (rung a) = 0
  · rw [hf]; simp
  · have hlt : val (1022 * 2 ^ 52) < val (1022 * 2 ^ 52 + frv (rung a)) := val_lt (by omega)
    rw [if_neg (by omega), (by simpa using hf : (frv (rung a) == 0) = false)]
    rfl
theorem krInfT (w : World) : Kp 75 #[.bool true] w (wd 18442240474082181120) := by
  have h := krinf true w
  rw [show Ieee.double.word true infR = 18442240474082181120 by decide] at h
  exact h
theorem kminf1 {a : Nat} (ha : a < 2 ^ 64) (sa : isNeg a = false) (w : World) : Kp 56 #[.float .f64 a, .int .i64 1] w (.bool (isInfW a)) := by
  have h : (FloatKind.f64.format.order a 9218868437227405311 == some .gt) = isInfW a := by
    have h1 := ord_inf a
    have h2 := pos_rung ha sa
    unfold rung at h2
    rw [← h2] at h1
    exact h1
  go_enter Tryz.func56, Tryz.ntmps56
  go_wp2_with fail
  go_ret
  exact ⟨rfl, rfl⟩

theorem kln1 {a : Nat} (ha : a < 2 ^ 64) (h1 : (FloatKind.f64.format.order a 0 == some .eq) = true) (w : World) : Kb 28 #[wd a] w (wd (18442240474082181120)) := by
  have BL := Lib.hid (Below.refl w.heap.size w)
  go_enter Tryz.func28, Tryz.ntmps28
  go_wp2_with (first
    | (go_at_call 19; refine (kof _ _).mono ?_; rintro e wz ⟨rfl, hw1⟩; have hw2 := hw1.symm; clear hw1; subst hw2)
    | (go_at_call 25; refine (kinfT _).mono ?_; rintro e wz ⟨rfl, hw1⟩; have hw2 := hw1.symm; clear hw1; subst hw2))
  go_ret
  exact ⟨rfl, BL.out⟩

theorem kln2 {a : Nat} (ha : a < 2 ^ 64) (h1 : (FloatKind.f64.format.order a 0 == some .eq) = false) (h2 : (FloatKind.f64.format.order a 0 == some .gt) = false) (w : World) : Kb 28 #[wd a] w (wd (theNaN)) := by
  have BL := Lib.hid (Below.refl w.heap.size w)
  go_enter Tryz.func28, Tryz.ntmps28
  go_wp2_with (first
    | (go_at_call 19; refine (kof _ _).mono ?_; rintro e wz ⟨rfl, hw1⟩; have hw2 := hw1.symm; clear hw1; subst hw2))
  go_ret
  exact ⟨rfl, BL.out⟩

theorem kln3 {a : Nat} (ha : a < 2 ^ 64) (h1 : (FloatKind.f64.format.order a 0 == some .eq) = false) (h2 : (FloatKind.f64.format.order a 0 == some .gt) = true) (sa : isNeg a = false) (ia : isInfW a = true) (w : World) : Kb 28 #[wd a] w (wd (a)) := by
  have BL := Lib.hid (Below.refl w.heap.size w)
  go_enter Tryz.func28, Tryz.ntmps28
  go_wp2_with (first
    | (go_at_call 19; refine (kof _ _).mono ?_; rintro e wz ⟨rfl, hw1⟩; have hw2 := hw1.symm; clear hw1; subst hw2)
    | (go_at_call 56; refine (kminf1 ha sa _).mono ?_; rintro e wz ⟨rfl, hw1⟩; have hw2 := hw1.symm; clear hw1; subst hw2))
  go_ret
  exact ⟨rfl, BL.out⟩

theorem krln1 {a : Nat} (ha : a < 2 ^ 64) (na : nanW a = true) (w : World) : Kb 42 #[wd a] w (wd (theNaN)) := by
  have BL := Lib.hid (Below.refl w.heap.size w)
  go_enter Tryz.func42, Tryz.ntmps42
  go_wp2_with (first
    | (go_at_call 30; refine (krNaN (by first | assumption | exact dA_lt _ _ | exact dS_lt _ _ | exact dM_lt _ _ | exact dD_lt _ _ | exact dQ_lt _ | exact intW_lt _ | exact powW_lt _ | exact flW_lt (dA_lt _ _) | decide) _).mono ?_; rintro e wz ⟨rfl, hw1⟩; have hw2 := hw1.symm; clear hw1; subst hw2))
  go_ret
  exact ⟨rfl, BL.out⟩

theorem krln2 {a : Nat} (ha : a < 2 ^ 64) (na : nanW a = false) (za : zeroW a = true) (w : World) : Kb 42 #[wd a] w (wd (18442240474082181120)) := by
  have BL := Lib.hid (Below.refl w.heap.size w)
  go_enter Tryz.func42, Tryz.ntmps42
  go_wp2_with (first
    | (go_at_call 30; refine (krNaN (by first | assumption | exact dA_lt _ _ | exact dS_lt _ _ | exact dM_lt _ _ | exact dD_lt _ _ | exact dQ_lt _ | exact intW_lt _ | exact powW_lt _ | exact flW_lt (dA_lt _ _) | decide) _).mono ?_; rintro e wz ⟨rfl, hw1⟩; have hw2 := hw1.symm; clear hw1; subst hw2)
    | (go_at_call 29; refine (krNought (by first | assumption | exact dA_lt _ _ | exact dS_lt _ _ | exact dM_lt _ _ | exact dD_lt _ _ | exact dQ_lt _ | exact intW_lt _ | exact powW_lt _ | exact flW_lt (dA_lt _ _) | decide) _).mono ?_; rintro e wz ⟨rfl, hw1⟩; have hw2 := hw1.symm; clear hw1; subst hw2)
    | (go_at_call 75; refine (krInfT _).mono ?_; rintro e wz ⟨rfl, hw1⟩; have hw2 := hw1.symm; clear hw1; subst hw2))
  go_ret
  exact ⟨rfl, BL.out⟩

theorem krln3 {a : Nat} (ha : a < 2 ^ 64) (na : nanW a = false) (za : zeroW a = false) (sa : isNeg a = true) (w : World) : Kb 42 #[wd a] w (wd (theNaN)) := by
  have BL := Lib.hid (Below.refl w.heap.size w)
  go_enter Tryz.func42, Tryz.ntmps42
  go_wp2_with (first
    | (go_at_call 30; refine (krNaN (by first | assumption | exact dA_lt _ _ | exact dS_lt _ _ | exact dM_lt _ _ | exact dD_lt _ _ | exact dQ_lt _ | exact intW_lt _ | exact powW_lt _ | exact flW_lt (dA_lt _ _) | decide) _).mono ?_; rintro e wz ⟨rfl, hw1⟩; have hw2 := hw1.symm; clear hw1; subst hw2)
    | (go_at_call 29; refine (krNought (by first | assumption | exact dA_lt _ _ | exact dS_lt _ _ | exact dM_lt _ _ | exact dD_lt _ _ | exact dQ_lt _ | exact intW_lt _ | exact powW_lt _ | exact flW_lt (dA_lt _ _) | decide) _).mono ?_; rintro e wz ⟨rfl, hw1⟩; have hw2 := hw1.symm; clear hw1; subst hw2)
    | (go_at_call 37; refine (krNeg0 (by first | assumption | exact dA_lt _ _ | exact dS_lt _ _ | exact dM_lt _ _ | exact dD_lt _ _ | exact dQ_lt _ | exact intW_lt _ | exact powW_lt _ | exact flW_lt (dA_lt _ _) | decide) _).mono ?_; rintro e wz ⟨rfl, hw1⟩; have hw2 := hw1.symm; clear hw1; subst hw2))
  go_ret
  exact ⟨rfl, BL.out⟩

theorem krln4 {a : Nat} (ha : a < 2 ^ 64) (na : nanW a = false) (za : zeroW a = false) (sa : isNeg a = false) (ia : isInfW a = true) (w : World) : Kb 42 #[wd a] w (wd (a)) := by
  have BL := Lib.hid (Below.refl w.heap.size w)
  go_enter Tryz.func42, Tryz.ntmps42
  go_wp2_with (first
    | (go_at_call 30; refine (krNaN (by first | assumption | exact dA_lt _ _ | exact dS_lt _ _ | exact dM_lt _ _ | exact dD_lt _ _ | exact dQ_lt _ | exact intW_lt _ | exact powW_lt _ | exact flW_lt (dA_lt _ _) | decide) _).mono ?_; rintro e wz ⟨rfl, hw1⟩; have hw2 := hw1.symm; clear hw1; subst hw2)
    | (go_at_call 29; refine (krNought (by first | assumption | exact dA_lt _ _ | exact dS_lt _ _ | exact dM_lt _ _ | exact dD_lt _ _ | exact dQ_lt _ | exact intW_lt _ | exact powW_lt _ | exact flW_lt (dA_lt _ _) | decide) _).mono ?_; rintro e wz ⟨rfl, hw1⟩; have hw2 := hw1.symm; clear hw1; subst hw2)
    | (go_at_call 37; refine (krNeg0 (by first | assumption | exact dA_lt _ _ | exact dS_lt _ _ | exact dM_lt _ _ | exact dD_lt _ _ | exact dQ_lt _ | exact intW_lt _ | exact powW_lt _ | exact flW_lt (dA_lt _ _) | decide) _).mono ?_; rintro e wz ⟨rfl, hw1⟩; have hw2 := hw1.symm; clear hw1; subst hw2)
    | (go_at_call 31; refine (krInfQ (by first | assumption | exact dA_lt _ _ | exact dS_lt _ _ | exact dM_lt _ _ | exact dD_lt _ _ | exact dQ_lt _ | exact intW_lt _ | exact powW_lt _ | exact flW_lt (dA_lt _ _) | decide) _).mono ?_; rintro e wz ⟨rfl, hw1⟩; have hw2 := hw1.symm; clear hw1; subst hw2))
  go_ret
  exact ⟨rfl, BL.out⟩

set_option maxRecDepth 100000 in
theorem kln5 {a m M' : Nat} {E E' : Int} (t : Bool) (ha : a < 2 ^ 64) (h1 : (FloatKind.f64.format.order a 0 == some .eq) = false) (h2 : (FloatKind.f64.format.order a 0 == some .gt) = true) (sa : isNeg a = false) (ia : isInfW a = false)
    (kf : ∀ w, Kn 65 #[.float .f64 a] w (.tuple #[.float .f64 m, .int .i64 E])) (hb : bitsW m = m) (lm : m < 2 ^ 64) (b1 : -1074 ≤ E) (b2 : E ≤ 1024) (ht : ltB m 4604544271217802189 = t) (hM : M' = if t then dM 4611686018427387904 m else m) (hE' : E' = if t then E - 1 else E) (w : World) :
    Kb 28 #[wd a] w (wd (lnC M' E')) := by
  obtain ⟨F, hF⟩ : ∃ F, dD (dS M' 4607182418800017408) (dA M' 4607182418800017408) = F := ⟨_, rfl⟩
  obtain ⟨S, hS⟩ : ∃ S, dM F F = S := ⟨_, rfl⟩
  obtain ⟨RR, hRR⟩ : ∃ RR, rowN (lnF S) 2 11 21 (dD 4607182418800017408 (intW 23)) = RR := ⟨_, rfl⟩
  have LF : F < 2 ^ 64 := by rw [← hF]; exact dD_lt _ _
  have LS : S < 2 ^ 64 := by rw [← hS]; exact dM_lt _ _
  have LR : RR < 2 ^ 64 := by rw [← hRR]; exact rowN_lt (lnF_lt _) _ _ _ _ (dD_lt _ _)
  have HE : Hid (lnC M' E' = dA (dM (intW E') 4604418534311723008) (dA (dM (dM 4611686018427387904 F) RR) (dM (intW E') 4461442080421002358))) := Lib.hid (by
    unfold lnC lnR lnf; rw [hF, hS, hRR])
  have KF := Lib.hid kf
  clear kf
  have BL := Lib.hid (Below.refl w.heap.size w)
  cases t
  all_goals
    first
      | rw [if_pos rfl] at hM hE'
      | rw [if_neg (by decide)] at hM hE'
    subst hM hE'
    go_enter Tryz.func28, Tryz.ntmps28
    go_wp2_with (first
      | (go_at_call 19; refine (kof _ _).mono ?_; rintro e wz ⟨rfl, hw1⟩; have hw2 := hw1.symm; clear hw1; subst hw2)
      | (go_at_call 56; refine (kminf1 ha sa _).mono ?_; rintro e wz ⟨rfl, hw1⟩; have hw2 := hw1.symm; clear hw1; subst hw2)
      | (go_at_call 65; refine (KF.out _).mono ?_; rintro e wk ⟨rfl, nk, hw⟩; have BL := Lib.hid (show Below w.heap.size w wk by rw [hw]; first | exact BL.out.trans (drew_below _ _ _) | exact (BL.out.trans (drew_below _ _ _)).trans (drew_below _ _ _) | exact (BL.out.alloc BL.out.size _).trans (drew_below _ _ _)); clear hw)
      | (go_at_call 53; refine (kbits _ _).mono ?_; rw [hb]; rintro e wz ⟨rfl, hw1⟩; have hw2 := hw1.symm; clear hw1; subst hw2)
      | (go_at_call 23; refine (knless _ _ _).mono ?_; rintro e wz ⟨rfl, hw1⟩; have hw2 := hw1.symm; clear hw1; subst hw2)
      | (go_at_call 27; refine (kM _ _ _).mono ?_; rintro e wk ⟨rfl, nk, hw⟩; have BL := Lib.hid (show Below w.heap.size w wk by rw [hw]; first | exact BL.out.trans (drew_below _ _ _) | exact (BL.out.trans (drew_below _ _ _)).trans (drew_below _ _ _) | exact (BL.out.alloc BL.out.size _).trans (drew_below _ _ _)); clear hw)
      | (go_at_call 44; refine (kS _ _ _).mono ?_; rintro e wk ⟨rfl, nk, hw⟩; have BL := Lib.hid (show Below w.heap.size w wk by rw [hw]; first | exact BL.out.trans (drew_below _ _ _) | exact (BL.out.trans (drew_below _ _ _)).trans (drew_below _ _ _) | exact (BL.out.alloc BL.out.size _).trans (drew_below _ _ _)); clear hw)
      | (go_at_call 12; refine (kA _ _ _).mono ?_; rintro e wk ⟨rfl, nk, hw⟩; have BL := Lib.hid (show Below w.heap.size w wk by rw [hw]; first | exact BL.out.trans (drew_below _ _ _) | exact (BL.out.trans (drew_below _ _ _)).trans (drew_below _ _ _) | exact (BL.out.alloc BL.out.size _).trans (drew_below _ _ _)); clear hw)
      | (go_at_call 10; refine (kintW _ _).mono ?_; rintro e wz ⟨rfl, hw1⟩; have hw2 := hw1.symm; clear hw1; subst hw2)
      | (go_at_call 13; refine (kD _ _ _).mono ?_; rintro e wk ⟨rfl, nk, rfl⟩)
      | (go_at_call 62; refine (krowL (lnF _) _ _ _ _ (cell_newD _ _ _ _) (Lib.hid fun p i W hc => klnF _ p i W _ hc)).mono ?_; rintro e wk ⟨rfl, nk, hw⟩; have BL := Lib.hid (show Below w.heap.size w wk by rw [hw]; first | exact BL.out.trans (drew_below _ _ _) | exact (BL.out.trans (drew_below _ _ _)).trans (drew_below _ _ _) | exact ((BL.out.alloc BL.out.size _).trans (drew_below _ _ _)).trans (drew_below _ _ _) | exact (BL.out.alloc BL.out.size _).trans (drew_below _ _ _)); clear hw))
    go_ret
    exact ⟨by rw [HE.out]; first | done | rfl, BL.out⟩

set_option maxRecDepth 100000 in
theorem krln5 {a n m M' : Nat} {b e E E' : Int} (t : Bool) (ha : a < 2 ^ 64) (na : nanW a = false) (za : zeroW a = false) (sa : isNeg a = false) (ia : isInfW a = false)
    (ko : ∀ w, Kp 76 #[wd a] w (.tuple #[wd n, .int .i64 e])) (hn : n < 2 ^ 53) (hb : (size n : Int) = b) (b3 : 0 ≤ b) (b4 : b ≤ 53) (he : b + e = E)
    (hr : Ieee.double.word false (min (rnd (2 * n + false.toNat) (-b - 1)) infR) = m) (lm : m < 2 ^ 64) (b1 : -1074 ≤ E) (b2 : E ≤ 1024) (ht : ltB m 4604544271217802189 = t) (hM : M' = if t then dM 4611686018427387904 m else m) (hE' : E' = if t then E - 1 else E) (w : World) :
    Kb 42 #[wd a] w (wd (lnC M' E')) := by
  obtain ⟨F, hF⟩ : ∃ F, dD (dS M' 4607182418800017408) (dA M' 4607182418800017408) = F := ⟨_, rfl⟩
  obtain ⟨S, hS⟩ : ∃ S, dM F F = S := ⟨_, rfl⟩
  obtain ⟨RR, hRR⟩ : ∃ RR, rowN (lnF S) 2 11 21 (dD 4607182418800017408 (intW 23)) = RR := ⟨_, rfl⟩
  have LF : F < 2 ^ 64 := by rw [← hF]; exact dD_lt _ _
  have LS : S < 2 ^ 64 := by rw [← hS]; exact dM_lt _ _
  have LR : RR < 2 ^ 64 := by rw [← hRR]; exact rowN_lt (lnF_lt _) _ _ _ _ (dD_lt _ _)
  have HE : Hid (lnC M' E' = dA (dM (intW E') 4604418534311723008) (dA (dM (dM 4611686018427387904 F) RR) (dM (intW E') 4461442080421002358))) := Lib.hid (by
    unfold lnC lnR lnf; rw [hF, hS, hRR])
  have KO := Lib.hid ko
  have HR := Lib.hid hr
  have HRR := Lib.hid hRR
  have he2 : e + b = E := by omega
  have b5 : -1200 ≤ e ∧ e ≤ 1200 := by omega
  clear ko hr hRR he
  have BL := Lib.hid (Below.refl w.heap.size w)
  cases t
  all_goals
    first
      | rw [if_pos rfl] at hM hE'
      | rw [if_neg (by decide)] at hM hE'
    subst hM hE'
    go_enter Tryz.func42, Tryz.ntmps42
    go_wp2_with (first
      | (go_at_call 30; refine (krNaN (by first | assumption | exact dA_lt _ _ | exact dS_lt _ _ | exact dM_lt _ _ | exact dD_lt _ _ | exact dQ_lt _ | exact intW_lt _ | exact powW_lt _ | exact flW_lt (dA_lt _ _) | decide) _).mono ?_; rintro e wz ⟨rfl, hw1⟩; have hw2 := hw1.symm; clear hw1; subst hw2)
      | (go_at_call 29; refine (krNought (by first | assumption | exact dA_lt _ _ | exact dS_lt _ _ | exact dM_lt _ _ | exact dD_lt _ _ | exact dQ_lt _ | exact intW_lt _ | exact powW_lt _ | exact flW_lt (dA_lt _ _) | decide) _).mono ?_; rintro e wz ⟨rfl, hw1⟩; have hw2 := hw1.symm; clear hw1; subst hw2)
      | (go_at_call 37; refine (krNeg0 (by first | assumption | exact dA_lt _ _ | exact dS_lt _ _ | exact dM_lt _ _ | exact dD_lt _ _ | exact dQ_lt _ | exact intW_lt _ | exact powW_lt _ | exact flW_lt (dA_lt _ _) | decide) _).mono ?_; rintro e wz ⟨rfl, hw1⟩; have hw2 := hw1.symm; clear hw1; subst hw2)
      | (go_at_call 31; refine (krInfQ (by first | assumption | exact dA_lt _ _ | exact dS_lt _ _ | exact dM_lt _ _ | exact dD_lt _ _ | exact dQ_lt _ | exact intW_lt _ | exact powW_lt _ | exact flW_lt (dA_lt _ _) | decide) _).mono ?_; rintro e wz ⟨rfl, hw1⟩; have hw2 := hw1.symm; clear hw1; subst hw2)
      | (go_at_call 47; refine (krbelow (by first | assumption | exact dA_lt _ _ | exact dS_lt _ _ | exact dM_lt _ _ | exact dD_lt _ _ | exact dQ_lt _ | exact intW_lt _ | exact powW_lt _ | exact flW_lt (dA_lt _ _) | decide) (by first | assumption | exact dA_lt _ _ | exact dS_lt _ _ | exact dM_lt _ _ | exact dD_lt _ _ | exact dQ_lt _ | exact intW_lt _ | exact powW_lt _ | exact flW_lt (dA_lt _ _) | decide) _).mono ?_; rintro e wk ⟨rfl, bk⟩; have BL := Lib.hid (BL.out.trans (bk.mono BL.out.size)); clear bk)
      | (go_at_call 39; refine (rM (by first | assumption | exact dA_lt _ _ | exact dS_lt _ _ | exact dM_lt _ _ | exact dD_lt _ _ | exact dQ_lt _ | exact intW_lt _ | exact powW_lt _ | exact flW_lt (dA_lt _ _) | decide) (by first | assumption | exact dA_lt _ _ | exact dS_lt _ _ | exact dM_lt _ _ | exact dD_lt _ _ | exact dQ_lt _ | exact intW_lt _ | exact powW_lt _ | exact flW_lt (dA_lt _ _) | decide) _).mono ?_; rintro e wk ⟨rfl, bk⟩; have BL := Lib.hid (BL.out.trans (bk.mono BL.out.size)); clear bk)
      | (go_at_call 49; refine (rS (by first | assumption | exact dA_lt _ _ | exact dS_lt _ _ | exact dM_lt _ _ | exact dD_lt _ _ | exact dQ_lt _ | exact intW_lt _ | exact powW_lt _ | exact flW_lt (dA_lt _ _) | decide) (by first | assumption | exact dA_lt _ _ | exact dS_lt _ _ | exact dM_lt _ _ | exact dD_lt _ _ | exact dQ_lt _ | exact intW_lt _ | exact powW_lt _ | exact flW_lt (dA_lt _ _) | decide) _).mono ?_; rintro e wk ⟨rfl, bk⟩; have BL := Lib.hid (BL.out.trans (bk.mono BL.out.size)); clear bk)
      | (go_at_call 48; refine (rA (by first | assumption | exact dA_lt _ _ | exact dS_lt _ _ | exact dM_lt _ _ | exact dD_lt _ _ | exact dQ_lt _ | exact intW_lt _ | exact powW_lt _ | exact flW_lt (dA_lt _ _) | decide) (by first | assumption | exact dA_lt _ _ | exact dS_lt _ _ | exact dM_lt _ _ | exact dD_lt _ _ | exact dQ_lt _ | exact intW_lt _ | exact powW_lt _ | exact flW_lt (dA_lt _ _) | decide) _).mono ?_; rintro e wk ⟨rfl, bk⟩; have BL := Lib.hid (BL.out.trans (bk.mono BL.out.size)); clear bk)
      | (go_at_call 40; refine (rD (by first | assumption | exact dA_lt _ _ | exact dS_lt _ _ | exact dM_lt _ _ | exact dD_lt _ _ | exact dQ_lt _ | exact intW_lt _ | exact powW_lt _ | exact flW_lt (dA_lt _ _) | decide) (by first | assumption | exact dA_lt _ _ | exact dS_lt _ _ | exact dM_lt _ _ | exact dD_lt _ _ | exact dQ_lt _ | exact intW_lt _ | exact powW_lt _ | exact flW_lt (dA_lt _ _) | decide) _).mono ?_; rintro e wk ⟨rfl, bk⟩; have BL := Lib.hid (BL.out.trans (bk.mono BL.out.size)); clear bk)
      | (go_at_call 81; refine (krInt (by omega) (by omega) _).mono ?_; rintro e wk ⟨rfl, bk⟩; have BL := Lib.hid (BL.out.trans (bk.mono BL.out.size)); clear bk)
      | (go_at_call 76; refine (KO.out _).mono ?_; rintro e wz ⟨rfl, hw1⟩; have hw2 := hw1.symm; clear hw1; subst hw2)
      | (go_at_call 69; refine (kfrom (n := n) (by omega) _).mono ?_; rintro e w3 ⟨p3, rfl, k3, b3⟩; have K3 := Lib.hid k3; have BL := Lib.hid (BL.out.trans (b3.mono BL.out.size)); clear k3 b3)
      | (go_at_call 73; refine (kbsize K3.out).mono ?_; rw [hb]; rintro e wz ⟨rfl, hw1⟩; have hw2 := hw1.symm; clear hw1; subst hw2)
      | (go_at_call 68; refine (kround false (-b) false K3.out (Nat.le_trans (dig_len (k := 2) (Nat.lt_of_lt_of_le hn (by decide))) (by decide)) (by omega) (by intro hh; cases hh)).mono ?_; rw [HR.out]; rintro e wk ⟨rfl, bk⟩; have BL := Lib.hid (BL.out.trans (bk.mono BL.out.size)); clear bk))
    go_loopw [9, 10] (fun x y wr => ∃ (k p : Nat) (z : Int), x = wd p ∧ y = .int .i64 z ∧ z = 21 - 2 * (k : Int) ∧ k ≤ 11 ∧ p < 2 ^ 64 ∧ rowN (lnF S) 2 (11 - k) z p = RR ∧ Below w.heap.size w wr) (fun _ y _ => ((intOf y) + 2).toNat)
    case atStart => exact ⟨0, _, 21, rfl, rfl, by omega, by omega, dD_lt _ _, HRR.out, BL.out⟩
    case round =>
      obtain ⟨k, p, z, rfl, rfl, hz, hk, lp, hr, bl⟩ := hrel
      have BL := Lib.hid bl
      clear bl
      by_cases hkn : k = 11
      · have hz2 : z < 1 ∧ -1000 ≤ z := by omega
        rw [hkn] at hr
        have hp : p = RR := hr
        subst hp
        clear hz hk hr hkn HRR
        go_wp2_with (first
          | (go_at_call 81; refine (krInt (by omega) (by omega) _).mono ?_; rintro e wk ⟨rfl, bk⟩; have BL := Lib.hid (BL.out.trans (bk.mono BL.out.size)); clear bk)
          | (go_at_call 39; refine (rM (by first | assumption | exact dA_lt _ _ | exact dS_lt _ _ | exact dM_lt _ _ | exact dD_lt _ _ | exact dQ_lt _ | exact intW_lt _ | exact powW_lt _ | exact flW_lt (dA_lt _ _) | decide) (by first | assumption | exact dA_lt _ _ | exact dS_lt _ _ | exact dM_lt _ _ | exact dD_lt _ _ | exact dQ_lt _ | exact intW_lt _ | exact powW_lt _ | exact flW_lt (dA_lt _ _) | decide) _).mono ?_; rintro e wk ⟨rfl, bk⟩; have BL := Lib.hid (BL.out.trans (bk.mono BL.out.size)); clear bk)
          | (go_at_call 48; refine (rA (by first | assumption | exact dA_lt _ _ | exact dS_lt _ _ | exact dM_lt _ _ | exact dD_lt _ _ | exact dQ_lt _ | exact intW_lt _ | exact powW_lt _ | exact flW_lt (dA_lt _ _) | decide) (by first | assumption | exact dA_lt _ _ | exact dS_lt _ _ | exact dM_lt _ _ | exact dD_lt _ _ | exact dQ_lt _ | exact intW_lt _ | exact powW_lt _ | exact flW_lt (dA_lt _ _) | decide) _).mono ?_; rintro e wk ⟨rfl, bk⟩; have BL := Lib.hid (BL.out.trans (bk.mono BL.out.size)); clear bk))
        go_ret
        exact ⟨by rw [HE.out]; first | done | rfl, BL.out⟩
      · have hz2 : 1 ≤ z ∧ z ≤ 21 := by omega
        obtain ⟨t, ht⟩ : ∃ t, 11 - k = t + 1 := ⟨11 - k - 1, by omega⟩
        rw [ht] at hr
        have HZ := Lib.hid hz
        have HT := Lib.hid ht
        have HK := Lib.hid hkn
        have HR := Lib.hid (show rowN (lnF S) 2 t (z - 2) (lnF S p (intW z)) = RR from hr)
        clear hz ht hr hkn
        go_wp2_with (first
          | (go_at_call 81; refine (krInt (by omega) (by omega) _).mono ?_; rintro e wk ⟨rfl, bk⟩; have BL := Lib.hid (BL.out.trans (bk.mono BL.out.size)); clear bk)
          | (go_at_call 39; refine (rM (by first | assumption | exact dA_lt _ _ | exact dS_lt _ _ | exact dM_lt _ _ | exact dD_lt _ _ | exact dQ_lt _ | exact intW_lt _ | exact powW_lt _ | exact flW_lt (dA_lt _ _) | decide) (by first | assumption | exact dA_lt _ _ | exact dS_lt _ _ | exact dM_lt _ _ | exact dD_lt _ _ | exact dQ_lt _ | exact intW_lt _ | exact powW_lt _ | exact flW_lt (dA_lt _ _) | decide) _).mono ?_; rintro e wk ⟨rfl, bk⟩; have BL := Lib.hid (BL.out.trans (bk.mono BL.out.size)); clear bk)
          | (go_at_call 40; refine (rD (by first | assumption | exact dA_lt _ _ | exact dS_lt _ _ | exact dM_lt _ _ | exact dD_lt _ _ | exact dQ_lt _ | exact intW_lt _ | exact powW_lt _ | exact flW_lt (dA_lt _ _) | decide) (by first | assumption | exact dA_lt _ _ | exact dS_lt _ _ | exact dM_lt _ _ | exact dD_lt _ _ | exact dQ_lt _ | exact intW_lt _ | exact powW_lt _ | exact flW_lt (dA_lt _ _) | decide) _).mono ?_; rintro e wk ⟨rfl, bk⟩; have BL := Lib.hid (BL.out.trans (bk.mono BL.out.size)); clear bk)
          | (go_at_call 48; refine (rA (by first | assumption | exact dA_lt _ _ | exact dS_lt _ _ | exact dM_lt _ _ | exact dD_lt _ _ | exact dQ_lt _ | exact intW_lt _ | exact powW_lt _ | exact flW_lt (dA_lt _ _) | decide) (by first | assumption | exact dA_lt _ _ | exact dS_lt _ _ | exact dM_lt _ _ | exact dD_lt _ _ | exact dQ_lt _ | exact intW_lt _ | exact powW_lt _ | exact flW_lt (dA_lt _ _) | decide) _).mono ?_; rintro e wk ⟨rfl, bk⟩; have BL := Lib.hid (BL.out.trans (bk.mono BL.out.size)); clear bk))
        go_roundw
        case rel =>
          refine ⟨k + 1, lnF S p (intW z), z - 2, rfl, by go_num, by have := HZ.out; omega, by have := HK.out; omega, lnF_lt _ _ _, ?_, BL.out⟩
          have := HT.out
          rw [show 11 - (k + 1) = t by omega]
          exact HR.out
        case measure => simp [intOf]; omega
theorem kln {a : Nat} (ha : a < 2 ^ 64) (w : World) : Kb 28 #[wd a] w (wd (lnW a)) := by
  unfold lnW
  cases na : nanW a
  · rw [if_neg (by decide)]
    have g1 := zero_eq na
    have g2 := gt_zero na
    cases za : zeroW a
    · rw [if_neg (by decide)]
      rw [za] at g1 g2
      cases sa : isNeg a
      · rw [if_neg (by decide)]
        rw [sa] at g2
        cases ia : isInfW a
        · rw [if_neg (by decide)]
          obtain ⟨h1, h2⟩ := fin_of na ia za
          obtain ⟨f1, f2, f3, f4⟩ := frac_fit na ia za
          unfold lnB
          cases ht : ltB (fracW a) 4604544271217802189
          · rw [if_neg (by decide)]; exact kln5 false ha g1 g2 sa ia (kfrexp ha h1 h2) f1 f2 f3 f4 ht (if_neg (by decide)).symm (if_neg (by decide)).symm w
          · rw [if_pos rfl]; exact kln5 true ha g1 g2 sa ia (kfrexp ha h1 h2) f1 f2 f3 f4 ht (if_pos rfl).symm (if_pos rfl).symm w
        · rw [if_pos rfl]; exact kln3 ha g1 g2 sa ia w
      · rw [if_pos rfl]
        rw [sa] at g2
        exact kln2 ha g1 g2 w
    · rw [if_pos rfl]
      rw [za] at g1
      exact kln1 ha g1 w
  · rw [if_pos rfl]; exact kln2 ha (eqNan na) (gt_nan na) w
theorem krln {a : Nat} (ha : a < 2 ^ 64) (w : World) : Kb 42 #[wd a] w (wd (lnW a)) := by
  unfold lnW
  cases na : nanW a
  · rw [if_neg (by decide)]
    cases za : zeroW a
    · rw [if_neg (by decide)]
      cases sa : isNeg a
      · rw [if_neg (by decide)]
        cases ia : isInfW a
        · rw [if_neg (by decide)]
          obtain ⟨f1, f2, f3, f4⟩ := frac_fit na ia za
          obtain ⟨r1, r2⟩ := frac_ref na ia za sa
          have hs : size (mg (rung a)) ≤ 53 := size_le.2 (mg_lt _)
          unfold lnB
          cases ht : ltB (fracW a) 4604544271217802189
          · rw [if_neg (by decide)]; exact krln5 false ha na za sa ia (kropen ha) (mg_lt _) rfl (by omega) (by omega) r1 r2 f2 f3 f4 ht (if_neg (by decide)).symm (if_neg (by decide)).symm w
          · rw [if_pos rfl]; exact krln5 true ha na za sa ia (kropen ha) (mg_lt _) rfl (by omega) (by omega) r1 r2 f2 f3 f4 ht (if_pos rfl).symm (if_pos rfl).symm w
        · rw [if_pos rfl]; exact krln4 ha na za sa ia w
      · rw [if_pos rfl]; exact krln3 ha na za sa w
    · rw [if_pos rfl]; exact krln2 ha na za w
  · rw [if_pos rfl]; exact krln1 ha na w

end Go.Proofs.YtoodbdjmbicaeaaGreatDoor
