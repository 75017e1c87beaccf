/- The document's Neg, Sub, Mul, Div. No condition. -/
import Derived.Test.YtoodbdjmbicaeaaGreatDoorRf4
import Derived.Test.YtoodbdjmbicaeaaGreatDoorP2
namespace Go.Proofs.YtoodbdjmbicaeaaGreatDoor
open Go.RowKit
set_option maxRecDepth 8000
set_option maxHeartbeats 1000000
set_option linter.unusedVariables false
set_option linter.unusedSimpArgs false

theorem opt_lt {o : Option Nat} (h : ∀ r, o = some r → r < 2 ^ 64) : opt o < 2 ^ 64 := by
  cases o with
  | none => exact theNaN_lt
  | some r =>
    show bitsW r < 2 ^ 64
    unfold bitsW
    split
    · exact theNaN_lt
    · exact h r rfl
theorem negV_lt {a : Nat} (ha : a < 2 ^ 64) : negV a < 2 ^ 64 := by
  unfold negV bitsW
  split
  · exact theNaN_lt
  · exact flip_lt ha
theorem krneg {a : Nat} (ha : a < 2 ^ 64) (w : World) : Kp 50 #[wd a] w (wd (negV a)) := by
  have h := xorSign ha
  cases na : nanW a
  · rw [negV_not ha na]
    go_enter Tryz.func50, Tryz.ntmps50
    go_wp2_with (go_at_call 30; refine (krNaN (by assumption) _).mono ?_; rintro e wz ⟨rfl, hw1⟩; have hw2 := hw1.symm; clear hw1; subst hw2)
    go_ret
    exact ⟨rfl, rfl⟩
  · rw [negV_nan ha na]
    go_enter Tryz.func50, Tryz.ntmps50
    go_wp2_with (go_at_call 30; refine (krNaN (by assumption) _).mono ?_; rintro e wz ⟨rfl, hw1⟩; have hw2 := hw1.symm; clear hw1; subst hw2)
    go_ret
    exact ⟨rfl, rfl⟩
theorem krsub {a b : Nat} (ha : a < 2 ^ 64) (hb : b < 2 ^ 64) (w : World) : Kb 49 #[wd a, wd b] w (wd (opt (Ieee.double.sub a b))) := by
  rw [sub_neg hb]
  have hn := negV_lt hb
  obtain ⟨c, hc⟩ : ∃ c, negV b = c := ⟨_, rfl⟩
  rw [hc] at hn ⊢
  have HC := Lib.hid hc
  clear hc
  go_enter Tryz.func49, Tryz.ntmps49
  go_wp2_with (first
    | (go_at_call 48; refine (kradd ha hn _).mono ?_; rintro e w3 ⟨rfl, b3⟩; have B3 := Lib.hid b3; clear b3)
    | (go_at_call 50; refine (krneg hb _).mono ?_; rw [HC.out]; rintro e wz ⟨rfl, hw1⟩; have hw2 := hw1.symm; clear hw1; subst hw2))
  go_ret
  exact ⟨rfl, B3.out⟩
theorem krinf (n : Bool) (w : World) : Kp 75 #[.bool n] w (wd (Ieee.double.word n infR)) := by
  cases n
  · rw [show Ieee.double.word false infR = 9218868437227405312 by decide]
    go_enter Tryz.func75, Tryz.ntmps75
    go_wp2
    go_ret
    exact ⟨rfl, rfl⟩
  · rw [show Ieee.double.word true infR = 18442240474082181120 by decide]
    go_enter Tryz.func75, Tryz.ntmps75
    go_wp2
    go_ret
    exact ⟨rfl, rfl⟩

theorem mulN1 (a b : Nat) (ha : a < 2 ^ 64) (hb : b < 2 ^ 64) (w : World) (na : nanW a = true) :
    Kb 39 #[wd a, wd b] w (wd theNaN) := by
  go_enter Tryz.func39, Tryz.ntmps39
  go_wp2_with (first
    | (go_at_call 30; refine (krNaN (by assumption) _).mono ?_; rintro e wz ⟨rfl, hw1⟩; have hw2 := hw1.symm; clear hw1; subst hw2)
    | (go_at_call 31; refine (krInfQ (by assumption) _).mono ?_; rintro e wz ⟨rfl, hw1⟩; have hw2 := hw1.symm; clear hw1; subst hw2)
    | (go_at_call 37; refine (krNeg0 (by assumption) _).mono ?_; rintro e wz ⟨rfl, hw1⟩; have hw2 := hw1.symm; clear hw1; subst hw2)
    | (go_at_call 29; refine (krNought (by assumption) _).mono ?_; rintro e wz ⟨rfl, hw1⟩; have hw2 := hw1.symm; clear hw1; subst hw2)
    | (go_at_call 75; refine (krinf _ _).mono ?_; rintro e wz ⟨rfl, hw1⟩; have hw2 := hw1.symm; clear hw1; subst hw2))
  go_ret
  exact ⟨rfl, Below.refl _ _⟩

theorem mulN2 (a b : Nat) (ha : a < 2 ^ 64) (hb : b < 2 ^ 64) (w : World) (na : nanW a = false) (nb : nanW b = true) :
    Kb 39 #[wd a, wd b] w (wd theNaN) := by
  go_enter Tryz.func39, Tryz.ntmps39
  go_wp2_with (first
    | (go_at_call 30; refine (krNaN (by assumption) _).mono ?_; rintro e wz ⟨rfl, hw1⟩; have hw2 := hw1.symm; clear hw1; subst hw2)
    | (go_at_call 31; refine (krInfQ (by assumption) _).mono ?_; rintro e wz ⟨rfl, hw1⟩; have hw2 := hw1.symm; clear hw1; subst hw2)
    | (go_at_call 37; refine (krNeg0 (by assumption) _).mono ?_; rintro e wz ⟨rfl, hw1⟩; have hw2 := hw1.symm; clear hw1; subst hw2)
    | (go_at_call 29; refine (krNought (by assumption) _).mono ?_; rintro e wz ⟨rfl, hw1⟩; have hw2 := hw1.symm; clear hw1; subst hw2)
    | (go_at_call 75; refine (krinf _ _).mono ?_; rintro e wz ⟨rfl, hw1⟩; have hw2 := hw1.symm; clear hw1; subst hw2))
  go_ret
  exact ⟨rfl, Below.refl _ _⟩

theorem mulI1 (a b : Nat) (ha : a < 2 ^ 64) (hb : b < 2 ^ 64) (w : World) (na : nanW a = false) (nb : nanW b = false) (ia : isInfW a = true) (zb : zeroW b = true) :
    Kb 39 #[wd a, wd b] w (wd theNaN) := by
  go_enter Tryz.func39, Tryz.ntmps39
  go_wp2_with (first
    | (go_at_call 30; refine (krNaN (by assumption) _).mono ?_; rintro e wz ⟨rfl, hw1⟩; have hw2 := hw1.symm; clear hw1; subst hw2)
    | (go_at_call 31; refine (krInfQ (by assumption) _).mono ?_; rintro e wz ⟨rfl, hw1⟩; have hw2 := hw1.symm; clear hw1; subst hw2)
    | (go_at_call 37; refine (krNeg0 (by assumption) _).mono ?_; rintro e wz ⟨rfl, hw1⟩; have hw2 := hw1.symm; clear hw1; subst hw2)
    | (go_at_call 29; refine (krNought (by assumption) _).mono ?_; rintro e wz ⟨rfl, hw1⟩; have hw2 := hw1.symm; clear hw1; subst hw2)
    | (go_at_call 75; refine (krinf _ _).mono ?_; rintro e wz ⟨rfl, hw1⟩; have hw2 := hw1.symm; clear hw1; subst hw2))
  go_ret
  exact ⟨rfl, Below.refl _ _⟩

theorem mulI2 (a b : Nat) (ha : a < 2 ^ 64) (hb : b < 2 ^ 64) (w : World) (na : nanW a = false) (nb : nanW b = false) (ia : isInfW a = false) (ib : isInfW b = true) (za : zeroW a = true) :
    Kb 39 #[wd a, wd b] w (wd theNaN) := by
  go_enter Tryz.func39, Tryz.ntmps39
  go_wp2_with (first
    | (go_at_call 30; refine (krNaN (by assumption) _).mono ?_; rintro e wz ⟨rfl, hw1⟩; have hw2 := hw1.symm; clear hw1; subst hw2)
    | (go_at_call 31; refine (krInfQ (by assumption) _).mono ?_; rintro e wz ⟨rfl, hw1⟩; have hw2 := hw1.symm; clear hw1; subst hw2)
    | (go_at_call 37; refine (krNeg0 (by assumption) _).mono ?_; rintro e wz ⟨rfl, hw1⟩; have hw2 := hw1.symm; clear hw1; subst hw2)
    | (go_at_call 29; refine (krNought (by assumption) _).mono ?_; rintro e wz ⟨rfl, hw1⟩; have hw2 := hw1.symm; clear hw1; subst hw2)
    | (go_at_call 75; refine (krinf _ _).mono ?_; rintro e wz ⟨rfl, hw1⟩; have hw2 := hw1.symm; clear hw1; subst hw2))
  go_ret
  exact ⟨rfl, Below.refl _ _⟩

theorem mulI3 (a b : Nat) (ha : a < 2 ^ 64) (hb : b < 2 ^ 64) (w : World) (na : nanW a = false) (nb : nanW b = false) (ia : isInfW a = true) (zb : zeroW b = false) (ib : isInfW b = true) (za : zeroW a = false) :
    Kb 39 #[wd a, wd b] w (wd (Ieee.double.word (isNeg a != isNeg b) infR)) := by
  go_enter Tryz.func39, Tryz.ntmps39
  go_wp2_with (first
    | (go_at_call 30; refine (krNaN (by assumption) _).mono ?_; rintro e wz ⟨rfl, hw1⟩; have hw2 := hw1.symm; clear hw1; subst hw2)
    | (go_at_call 31; refine (krInfQ (by assumption) _).mono ?_; rintro e wz ⟨rfl, hw1⟩; have hw2 := hw1.symm; clear hw1; subst hw2)
    | (go_at_call 37; refine (krNeg0 (by assumption) _).mono ?_; rintro e wz ⟨rfl, hw1⟩; have hw2 := hw1.symm; clear hw1; subst hw2)
    | (go_at_call 29; refine (krNought (by assumption) _).mono ?_; rintro e wz ⟨rfl, hw1⟩; have hw2 := hw1.symm; clear hw1; subst hw2)
    | (go_at_call 75; refine (krinf _ _).mono ?_; rintro e wz ⟨rfl, hw1⟩; have hw2 := hw1.symm; clear hw1; subst hw2))
  go_ret
  exact ⟨rfl, Below.refl _ _⟩

theorem mulI4 (a b : Nat) (ha : a < 2 ^ 64) (hb : b < 2 ^ 64) (w : World) (na : nanW a = false) (nb : nanW b = false) (ia : isInfW a = true) (zb : zeroW b = false) (ib : isInfW b = false) :
    Kb 39 #[wd a, wd b] w (wd (Ieee.double.word (isNeg a != isNeg b) infR)) := by
  go_enter Tryz.func39, Tryz.ntmps39
  go_wp2_with (first
    | (go_at_call 30; refine (krNaN (by assumption) _).mono ?_; rintro e wz ⟨rfl, hw1⟩; have hw2 := hw1.symm; clear hw1; subst hw2)
    | (go_at_call 31; refine (krInfQ (by assumption) _).mono ?_; rintro e wz ⟨rfl, hw1⟩; have hw2 := hw1.symm; clear hw1; subst hw2)
    | (go_at_call 37; refine (krNeg0 (by assumption) _).mono ?_; rintro e wz ⟨rfl, hw1⟩; have hw2 := hw1.symm; clear hw1; subst hw2)
    | (go_at_call 29; refine (krNought (by assumption) _).mono ?_; rintro e wz ⟨rfl, hw1⟩; have hw2 := hw1.symm; clear hw1; subst hw2)
    | (go_at_call 75; refine (krinf _ _).mono ?_; rintro e wz ⟨rfl, hw1⟩; have hw2 := hw1.symm; clear hw1; subst hw2))
  go_ret
  exact ⟨rfl, Below.refl _ _⟩

theorem mulI5 (a b : Nat) (ha : a < 2 ^ 64) (hb : b < 2 ^ 64) (w : World) (na : nanW a = false) (nb : nanW b = false) (ia : isInfW a = false) (ib : isInfW b = true) (za : zeroW a = false) :
    Kb 39 #[wd a, wd b] w (wd (Ieee.double.word (isNeg a != isNeg b) infR)) := by
  go_enter Tryz.func39, Tryz.ntmps39
  go_wp2_with (first
    | (go_at_call 30; refine (krNaN (by assumption) _).mono ?_; rintro e wz ⟨rfl, hw1⟩; have hw2 := hw1.symm; clear hw1; subst hw2)
    | (go_at_call 31; refine (krInfQ (by assumption) _).mono ?_; rintro e wz ⟨rfl, hw1⟩; have hw2 := hw1.symm; clear hw1; subst hw2)
    | (go_at_call 37; refine (krNeg0 (by assumption) _).mono ?_; rintro e wz ⟨rfl, hw1⟩; have hw2 := hw1.symm; clear hw1; subst hw2)
    | (go_at_call 29; refine (krNought (by assumption) _).mono ?_; rintro e wz ⟨rfl, hw1⟩; have hw2 := hw1.symm; clear hw1; subst hw2)
    | (go_at_call 75; refine (krinf _ _).mono ?_; rintro e wz ⟨rfl, hw1⟩; have hw2 := hw1.symm; clear hw1; subst hw2))
  go_ret
  exact ⟨rfl, Below.refl _ _⟩

theorem mulF (a b m n : Nat) (i j : Int) (ha : a < 2 ^ 64) (hb : b < 2 ^ 64) (ml : m < 2 ^ 53) (nl : n < 2 ^ 53) (hij : -1074 ≤ i ∧ i ≤ 1000 ∧ -1074 ≤ j ∧ j ≤ 1000) (w : World) (na : nanW a = false) (nb : nanW b = false) (ia : isInfW a = false) (ib : isInfW b = false) (oa : ∀ w, Kp 76 #[wd a] w (.tuple #[wd m, .int .i64 i])) (ob : ∀ w, Kp 76 #[wd b] w (.tuple #[wd n, .int .i64 j])) :
    Kb 39 #[wd a, wd b] w (wd (roundW (isNeg a != isNeg b) (m * n) (i + j) false)) := by
  unfold Kb
  obtain ⟨base, hbase⟩ : ∃ base, w.heap.size = base := ⟨_, rfl⟩
  rw [hbase]
  have OA := Lib.hid (oa w)
  have OB := Lib.hid (ob w)
  have ml2 : m < 2 ^ 64 := by omega
  have nl2 : n < 2 ^ 64 := by omega
  have sm : (dig m).length ≤ 2 := dig_len (k := 2) (Nat.lt_of_lt_of_le ml (by decide))
  have sn : (dig n).length ≤ 2 := dig_len (k := 2) (Nat.lt_of_lt_of_le nl (by decide))
  have hmn : m * n < bp 4 := Nat.lt_of_lt_of_le (Nat.mul_lt_mul'' ml nl) (by decide)
  have S6 := Lib.hid (Nat.le_trans (dig_len hmn) (show 4 ≤ 300 by decide))
  have SM := Lib.hid (show (dig m).length ≤ 1000 by omega)
  have SN := Lib.hid (show (dig n).length ≤ 1000 by omega)
  clear oa ob hmn sm sn
  go_enter Tryz.func39, Tryz.ntmps39
  go_wp2_with (first
    | (go_at_call 68; refine (kroundR _ (i + j) false K6.out S6.out (by omega) (by intro h; cases h)).mono ?_; rintro e w7 ⟨rfl, b7⟩; have B7 := Lib.hid (B6.out.trans (b7.mono (by have := B6.out.size; omega))); clear b7)
    | (go_at_call 77; refine (ktimes K4b.out K5.out SM.out SN.out).mono ?_; rintro e w6 ⟨p6, rfl, k6, b6⟩; have K6 := Lib.hid k6; have B6 := Lib.hid (B5.out.trans (b6.mono (by have := B5.out.size; omega))); clear k6 b6)
    | (go_at_call 69; have tk2 := tk1; refine (kfrom nl2 _).mono ?_; rintro e w5 ⟨p5, rfl, k5, b5⟩; have K5 := Lib.hid k5; have K4b := Lib.hid (K4.out.keep b5); have B5 := Lib.hid (B4.out.trans (b5.mono (by have := B4.out.size; omega))); clear k5 b5)
    | (go_at_call 69; have tk1 := True.intro; refine (kfrom ml2 _).mono ?_; rintro e w4 ⟨p4, rfl, k4, b4⟩; rw [hbase] at k4 b4; have K4 := Lib.hid k4; have B4 := Lib.hid b4; clear k4 b4)
    | (go_at_call 76; have tko2 := tko; refine (OB.out).mono ?_; rintro e wz ⟨rfl, hw1⟩; have hw2 := hw1.symm; clear hw1; subst hw2)
    | (go_at_call 76; have tko := True.intro; refine (OA.out).mono ?_; rintro e wz ⟨rfl, hw1⟩; have hw2 := hw1.symm; clear hw1; subst hw2)
    | (go_at_call 30; refine (krNaN (by assumption) _).mono ?_; rintro e wz ⟨rfl, hw1⟩; have hw2 := hw1.symm; clear hw1; subst hw2)
    | (go_at_call 31; refine (krInfQ (by assumption) _).mono ?_; rintro e wz ⟨rfl, hw1⟩; have hw2 := hw1.symm; clear hw1; subst hw2)
    | (go_at_call 37; refine (krNeg0 (by assumption) _).mono ?_; rintro e wz ⟨rfl, hw1⟩; have hw2 := hw1.symm; clear hw1; subst hw2)
    | (go_at_call 29; refine (krNought (by assumption) _).mono ?_; rintro e wz ⟨rfl, hw1⟩; have hw2 := hw1.symm; clear hw1; subst hw2)
    | (go_at_call 75; refine (krinf _ _).mono ?_; rintro e wz ⟨rfl, hw1⟩; have hw2 := hw1.symm; clear hw1; subst hw2))
  go_ret
  exact ⟨rfl, B7.out⟩

theorem divN1 (a b : Nat) (ha : a < 2 ^ 64) (hb : b < 2 ^ 64) (w : World) (na : nanW a = true) :
    Kb 40 #[wd a, wd b] w (wd theNaN) := by
  go_enter Tryz.func40, Tryz.ntmps40
  go_wp2_with (first
    | (go_at_call 30; refine (krNaN (by assumption) _).mono ?_; rintro e wz ⟨rfl, hw1⟩; have hw2 := hw1.symm; clear hw1; subst hw2)
    | (go_at_call 31; refine (krInfQ (by assumption) _).mono ?_; rintro e wz ⟨rfl, hw1⟩; have hw2 := hw1.symm; clear hw1; subst hw2)
    | (go_at_call 37; refine (krNeg0 (by assumption) _).mono ?_; rintro e wz ⟨rfl, hw1⟩; have hw2 := hw1.symm; clear hw1; subst hw2)
    | (go_at_call 29; refine (krNought (by assumption) _).mono ?_; rintro e wz ⟨rfl, hw1⟩; have hw2 := hw1.symm; clear hw1; subst hw2)
    | (go_at_call 75; refine (krinf _ _).mono ?_; rintro e wz ⟨rfl, hw1⟩; have hw2 := hw1.symm; clear hw1; subst hw2))
  go_ret
  exact ⟨rfl, Below.refl _ _⟩

theorem divN2 (a b : Nat) (ha : a < 2 ^ 64) (hb : b < 2 ^ 64) (w : World) (na : nanW a = false) (nb : nanW b = true) :
    Kb 40 #[wd a, wd b] w (wd theNaN) := by
  go_enter Tryz.func40, Tryz.ntmps40
  go_wp2_with (first
    | (go_at_call 30; refine (krNaN (by assumption) _).mono ?_; rintro e wz ⟨rfl, hw1⟩; have hw2 := hw1.symm; clear hw1; subst hw2)
    | (go_at_call 31; refine (krInfQ (by assumption) _).mono ?_; rintro e wz ⟨rfl, hw1⟩; have hw2 := hw1.symm; clear hw1; subst hw2)
    | (go_at_call 37; refine (krNeg0 (by assumption) _).mono ?_; rintro e wz ⟨rfl, hw1⟩; have hw2 := hw1.symm; clear hw1; subst hw2)
    | (go_at_call 29; refine (krNought (by assumption) _).mono ?_; rintro e wz ⟨rfl, hw1⟩; have hw2 := hw1.symm; clear hw1; subst hw2)
    | (go_at_call 75; refine (krinf _ _).mono ?_; rintro e wz ⟨rfl, hw1⟩; have hw2 := hw1.symm; clear hw1; subst hw2))
  go_ret
  exact ⟨rfl, Below.refl _ _⟩

theorem divI1 (a b : Nat) (ha : a < 2 ^ 64) (hb : b < 2 ^ 64) (w : World) (na : nanW a = false) (nb : nanW b = false) (ia : isInfW a = true) (ib : isInfW b = true) :
    Kb 40 #[wd a, wd b] w (wd theNaN) := by
  go_enter Tryz.func40, Tryz.ntmps40
  go_wp2_with (first
    | (go_at_call 30; refine (krNaN (by assumption) _).mono ?_; rintro e wz ⟨rfl, hw1⟩; have hw2 := hw1.symm; clear hw1; subst hw2)
    | (go_at_call 31; refine (krInfQ (by assumption) _).mono ?_; rintro e wz ⟨rfl, hw1⟩; have hw2 := hw1.symm; clear hw1; subst hw2)
    | (go_at_call 37; refine (krNeg0 (by assumption) _).mono ?_; rintro e wz ⟨rfl, hw1⟩; have hw2 := hw1.symm; clear hw1; subst hw2)
    | (go_at_call 29; refine (krNought (by assumption) _).mono ?_; rintro e wz ⟨rfl, hw1⟩; have hw2 := hw1.symm; clear hw1; subst hw2)
    | (go_at_call 75; refine (krinf _ _).mono ?_; rintro e wz ⟨rfl, hw1⟩; have hw2 := hw1.symm; clear hw1; subst hw2))
  go_ret
  exact ⟨rfl, Below.refl _ _⟩

theorem divI2 (a b : Nat) (ha : a < 2 ^ 64) (hb : b < 2 ^ 64) (w : World) (na : nanW a = false) (nb : nanW b = false) (ia : isInfW a = false) (za : zeroW a = true) (zb : zeroW b = true) :
    Kb 40 #[wd a, wd b] w (wd theNaN) := by
  go_enter Tryz.func40, Tryz.ntmps40
  go_wp2_with (first
    | (go_at_call 30; refine (krNaN (by assumption) _).mono ?_; rintro e wz ⟨rfl, hw1⟩; have hw2 := hw1.symm; clear hw1; subst hw2)
    | (go_at_call 31; refine (krInfQ (by assumption) _).mono ?_; rintro e wz ⟨rfl, hw1⟩; have hw2 := hw1.symm; clear hw1; subst hw2)
    | (go_at_call 37; refine (krNeg0 (by assumption) _).mono ?_; rintro e wz ⟨rfl, hw1⟩; have hw2 := hw1.symm; clear hw1; subst hw2)
    | (go_at_call 29; refine (krNought (by assumption) _).mono ?_; rintro e wz ⟨rfl, hw1⟩; have hw2 := hw1.symm; clear hw1; subst hw2)
    | (go_at_call 75; refine (krinf _ _).mono ?_; rintro e wz ⟨rfl, hw1⟩; have hw2 := hw1.symm; clear hw1; subst hw2))
  go_ret
  exact ⟨rfl, Below.refl _ _⟩

theorem divI3 (a b : Nat) (ha : a < 2 ^ 64) (hb : b < 2 ^ 64) (w : World) (na : nanW a = false) (nb : nanW b = false) (ia : isInfW a = true) (ib : isInfW b = false) (za : zeroW a = false) :
    Kb 40 #[wd a, wd b] w (wd (Ieee.double.word (isNeg a != isNeg b) infR)) := by
  go_enter Tryz.func40, Tryz.ntmps40
  go_wp2_with (first
    | (go_at_call 30; refine (krNaN (by assumption) _).mono ?_; rintro e wz ⟨rfl, hw1⟩; have hw2 := hw1.symm; clear hw1; subst hw2)
    | (go_at_call 31; refine (krInfQ (by assumption) _).mono ?_; rintro e wz ⟨rfl, hw1⟩; have hw2 := hw1.symm; clear hw1; subst hw2)
    | (go_at_call 37; refine (krNeg0 (by assumption) _).mono ?_; rintro e wz ⟨rfl, hw1⟩; have hw2 := hw1.symm; clear hw1; subst hw2)
    | (go_at_call 29; refine (krNought (by assumption) _).mono ?_; rintro e wz ⟨rfl, hw1⟩; have hw2 := hw1.symm; clear hw1; subst hw2)
    | (go_at_call 75; refine (krinf _ _).mono ?_; rintro e wz ⟨rfl, hw1⟩; have hw2 := hw1.symm; clear hw1; subst hw2))
  go_ret
  exact ⟨rfl, Below.refl _ _⟩

theorem divI4 (a b : Nat) (ha : a < 2 ^ 64) (hb : b < 2 ^ 64) (w : World) (na : nanW a = false) (nb : nanW b = false) (ia : isInfW a = false) (za : zeroW a = false) (zb : zeroW b = true) :
    Kb 40 #[wd a, wd b] w (wd (Ieee.double.word (isNeg a != isNeg b) infR)) := by
  go_enter Tryz.func40, Tryz.ntmps40
  go_wp2_with (first
    | (go_at_call 30; refine (krNaN (by assumption) _).mono ?_; rintro e wz ⟨rfl, hw1⟩; have hw2 := hw1.symm; clear hw1; subst hw2)
    | (go_at_call 31; refine (krInfQ (by assumption) _).mono ?_; rintro e wz ⟨rfl, hw1⟩; have hw2 := hw1.symm; clear hw1; subst hw2)
    | (go_at_call 37; refine (krNeg0 (by assumption) _).mono ?_; rintro e wz ⟨rfl, hw1⟩; have hw2 := hw1.symm; clear hw1; subst hw2)
    | (go_at_call 29; refine (krNought (by assumption) _).mono ?_; rintro e wz ⟨rfl, hw1⟩; have hw2 := hw1.symm; clear hw1; subst hw2)
    | (go_at_call 75; refine (krinf _ _).mono ?_; rintro e wz ⟨rfl, hw1⟩; have hw2 := hw1.symm; clear hw1; subst hw2))
  go_ret
  exact ⟨rfl, Below.refl _ _⟩

theorem divI5 (a b : Nat) (ha : a < 2 ^ 64) (hb : b < 2 ^ 64) (w : World) (na : nanW a = false) (nb : nanW b = false) (ia : isInfW a = false) (ib : isInfW b = true) (za : zeroW a = true) (zb : zeroW b = false) :
    Kb 40 #[wd a, wd b] w (wd (Ieee.double.word (isNeg a != isNeg b) 0)) := by
  go_enter Tryz.func40, Tryz.ntmps40
  go_wp2_with (first
    | (go_at_call 68; refine (kroundR (n := 0) (isNeg a != isNeg b) 0 false (Bg.zero w.heap.size w) (by rw [dig_zero]; decide) (by omega) (by intro h; cases h)).mono ?_; rw [roundW_zero]; rintro e w7 ⟨rfl, b7⟩; have B7 := Lib.hid b7; clear b7)
    | (go_at_call 30; refine (krNaN (by assumption) _).mono ?_; rintro e wz ⟨rfl, hw1⟩; have hw2 := hw1.symm; clear hw1; subst hw2)
    | (go_at_call 31; refine (krInfQ (by assumption) _).mono ?_; rintro e wz ⟨rfl, hw1⟩; have hw2 := hw1.symm; clear hw1; subst hw2)
    | (go_at_call 37; refine (krNeg0 (by assumption) _).mono ?_; rintro e wz ⟨rfl, hw1⟩; have hw2 := hw1.symm; clear hw1; subst hw2)
    | (go_at_call 29; refine (krNought (by assumption) _).mono ?_; rintro e wz ⟨rfl, hw1⟩; have hw2 := hw1.symm; clear hw1; subst hw2)
    | (go_at_call 75; refine (krinf _ _).mono ?_; rintro e wz ⟨rfl, hw1⟩; have hw2 := hw1.symm; clear hw1; subst hw2))
  go_ret
  exact ⟨rfl, B7.out⟩

theorem divI6 (a b : Nat) (ha : a < 2 ^ 64) (hb : b < 2 ^ 64) (w : World) (na : nanW a = false) (nb : nanW b = false) (ia : isInfW a = false) (ib : isInfW b = true) (za : zeroW a = false) (zb : zeroW b = false) :
    Kb 40 #[wd a, wd b] w (wd (Ieee.double.word (isNeg a != isNeg b) 0)) := by
  go_enter Tryz.func40, Tryz.ntmps40
  go_wp2_with (first
    | (go_at_call 68; refine (kroundR (n := 0) (isNeg a != isNeg b) 0 false (Bg.zero w.heap.size w) (by rw [dig_zero]; decide) (by omega) (by intro h; cases h)).mono ?_; rw [roundW_zero]; rintro e w7 ⟨rfl, b7⟩; have B7 := Lib.hid b7; clear b7)
    | (go_at_call 30; refine (krNaN (by assumption) _).mono ?_; rintro e wz ⟨rfl, hw1⟩; have hw2 := hw1.symm; clear hw1; subst hw2)
    | (go_at_call 31; refine (krInfQ (by assumption) _).mono ?_; rintro e wz ⟨rfl, hw1⟩; have hw2 := hw1.symm; clear hw1; subst hw2)
    | (go_at_call 37; refine (krNeg0 (by assumption) _).mono ?_; rintro e wz ⟨rfl, hw1⟩; have hw2 := hw1.symm; clear hw1; subst hw2)
    | (go_at_call 29; refine (krNought (by assumption) _).mono ?_; rintro e wz ⟨rfl, hw1⟩; have hw2 := hw1.symm; clear hw1; subst hw2)
    | (go_at_call 75; refine (krinf _ _).mono ?_; rintro e wz ⟨rfl, hw1⟩; have hw2 := hw1.symm; clear hw1; subst hw2))
  go_ret
  exact ⟨rfl, B7.out⟩

theorem divI7 (a b : Nat) (ha : a < 2 ^ 64) (hb : b < 2 ^ 64) (w : World) (na : nanW a = false) (nb : nanW b = false) (ia : isInfW a = false) (ib : isInfW b = false) (za : zeroW a = true) (zb : zeroW b = false) :
    Kb 40 #[wd a, wd b] w (wd (Ieee.double.word (isNeg a != isNeg b) 0)) := by
  go_enter Tryz.func40, Tryz.ntmps40
  go_wp2_with (first
    | (go_at_call 68; refine (kroundR (n := 0) (isNeg a != isNeg b) 0 false (Bg.zero w.heap.size w) (by rw [dig_zero]; decide) (by omega) (by intro h; cases h)).mono ?_; rw [roundW_zero]; rintro e w7 ⟨rfl, b7⟩; have B7 := Lib.hid b7; clear b7)
    | (go_at_call 30; refine (krNaN (by assumption) _).mono ?_; rintro e wz ⟨rfl, hw1⟩; have hw2 := hw1.symm; clear hw1; subst hw2)
    | (go_at_call 31; refine (krInfQ (by assumption) _).mono ?_; rintro e wz ⟨rfl, hw1⟩; have hw2 := hw1.symm; clear hw1; subst hw2)
    | (go_at_call 37; refine (krNeg0 (by assumption) _).mono ?_; rintro e wz ⟨rfl, hw1⟩; have hw2 := hw1.symm; clear hw1; subst hw2)
    | (go_at_call 29; refine (krNought (by assumption) _).mono ?_; rintro e wz ⟨rfl, hw1⟩; have hw2 := hw1.symm; clear hw1; subst hw2)
    | (go_at_call 75; refine (krinf _ _).mono ?_; rintro e wz ⟨rfl, hw1⟩; have hw2 := hw1.symm; clear hw1; subst hw2))
  go_ret
  exact ⟨rfl, B7.out⟩

theorem divF (a b m n : Nat) (i j : Int) (ha : a < 2 ^ 64) (hb : b < 2 ^ 64) (ml : m < 2 ^ 53) (nl : n < 2 ^ 53) (hij : -1074 ≤ i ∧ i ≤ 1000 ∧ -1074 ≤ j ∧ j ≤ 1000) (w : World) (na : nanW a = false) (nb : nanW b = false) (ia : isInfW a = false) (ib : isInfW b = false) (za : zeroW a = false) (zb : zeroW b = false) (hn0 : 0 < n) (hq : 2 ^ 53 ≤ m * 2 ^ 120 / n) (oa : ∀ w, Kp 76 #[wd a] w (.tuple #[wd m, .int .i64 i])) (ob : ∀ w, Kp 76 #[wd b] w (.tuple #[wd n, .int .i64 j])) :
    Kb 40 #[wd a, wd b] w (wd (roundW (isNeg a != isNeg b) (m * 2 ^ 120 / n) (i - 120 - j) (m * 2 ^ 120 % n != 0))) := by
  unfold Kb
  obtain ⟨base, hbase⟩ : ∃ base, w.heap.size = base := ⟨_, rfl⟩
  rw [hbase]
  have OA := Lib.hid (oa w)
  have OB := Lib.hid (ob w)
  have ml2 : m < 2 ^ 64 := by omega
  have nl2 : n < 2 ^ 64 := by omega
  have sm : (dig m).length ≤ 2 := dig_len (k := 2) (Nat.lt_of_lt_of_le ml (by decide))
  have sn : (dig n).length ≤ 2 := dig_len (k := 2) (Nat.lt_of_lt_of_le nl (by decide))
  obtain ⟨U, hU⟩ : ∃ U, m * 2 ^ 120 = U := ⟨_, rfl⟩
  rw [hU] at hq ⊢
  have hUl : U < bp 6 := by
    rw [← hU]
    have h1 : m * 2 ^ 120 < 2 ^ 53 * 2 ^ 120 := Nat.mul_lt_mul_of_pos_right ml (Nat.two_pow_pos _)
    exact Nat.lt_of_lt_of_le h1 (by decide)
  obtain ⟨q, hqq⟩ : ∃ q, U / n = q := ⟨_, rfl⟩
  obtain ⟨r, hr⟩ : ∃ r, U % n = r := ⟨_, rfl⟩
  obtain ⟨mr, hmr⟩ : ∃ mr, (r != 0) = mr := ⟨_, rfl⟩
  rw [hqq] at hq ⊢
  rw [hr, hmr]
  have hql : q < bp 6 := by rw [← hqq]; exact Nat.lt_of_le_of_lt (Nat.div_le_self _ _) hUl
  have S6 := Lib.hid (Nat.le_trans (dig_len hql) (show 6 ≤ 300 by decide))
  have SA := Lib.hid (Nat.le_trans (dig_len hUl) (show 6 ≤ 900 by decide))
  have SB := Lib.hid (show (dig n).length ≤ 900 by omega)
  have SM := Lib.hid (show (dig m).length ≤ 1000 by omega)
  have HU := Lib.hid hU
  have HQ := Lib.hid hqq
  have HR := Lib.hid hr
  have HMR := Lib.hid hmr
  have hm54 : mr = true → 54 ≤ size q := fun _ => by
    refine Nat.le_of_not_lt fun h => ?_
    have := size_le.1 (show size q ≤ 53 by omega)
    omega
  have HM := Lib.hid hm54
  clear oa ob sm sn hU hUl hqq hr hmr hql hm54 hq
  go_enter Tryz.func40, Tryz.ntmps40
  go_wp2_with (first
    | (go_at_call 68; refine (kroundR (isNeg a != isNeg b) (i - 120 - j) mr K6.out S6.out (by omega) HM.out).mono ?_; rintro e w7 ⟨rfl, b7⟩; have B7 := Lib.hid (B6.out.trans (b7.mono (by have := B6.out.size; omega))); clear b7)
    | (go_at_call 78; refine (kparts K5b.out K5.out hn0 SA.out SB.out).mono ?_; rintro e w6 ⟨p6, q6, rfl, k6, j6, b6⟩; rw [HQ.out] at k6; rw [HR.out] at j6; have K6 := Lib.hid k6; obtain ⟨ao6, cap6, L6, rfl, hL6, _, _, z6, y6, _⟩ := Bg.open j6; have hlen6 : decide (0 < L6) = mr := by
        rw [← HMR.out]
        by_cases hr0 : r = 0
        · rw [z6 hr0, hr0]; rfl
        · rw [show (r != 0) = true from bne_iff_ne.2 hr0]; exact decide_eq_true (by have := (y6 hr0).1; omega)
       clear hL6 z6 y6 j6; have B6 := Lib.hid (B5.out.trans (b6.mono (by have := B5.out.size; omega))); clear k6 b6)
    | (go_at_call 69; have tk2 := tk1; refine (kfrom nl2 _).mono ?_; rintro e w5 ⟨p5, rfl, k5, b5⟩; have K5 := Lib.hid k5; have K5b := Lib.hid (K4u.out.keep b5); have B5 := Lib.hid (B4u.out.trans (b5.mono (by have := B4u.out.size; omega))); clear k5 b5)
    | (go_at_call 79; refine (kup K4.out 120 (by omega) SM.out).mono ?_; rw [HU.out]; rintro e w8 ⟨p8, rfl, k8, b8⟩; have K4u := Lib.hid k8; have B4u := Lib.hid (B4.out.trans (b8.mono (by have := B4.out.size; omega))); clear k8 b8)
    | (go_at_call 69; have tk1 := True.intro; refine (kfrom ml2 _).mono ?_; rintro e w4 ⟨p4, rfl, k4, b4⟩; rw [hbase] at k4 b4; have K4 := Lib.hid k4; have B4 := Lib.hid b4; clear k4 b4)
    | (go_at_call 76; have tko2 := tko; refine (OB.out).mono ?_; rintro e wz ⟨rfl, hw1⟩; have hw2 := hw1.symm; clear hw1; subst hw2)
    | (go_at_call 76; have tko := True.intro; refine (OA.out).mono ?_; rintro e wz ⟨rfl, hw1⟩; have hw2 := hw1.symm; clear hw1; subst hw2)
    | (go_at_call 30; refine (krNaN (by assumption) _).mono ?_; rintro e wz ⟨rfl, hw1⟩; have hw2 := hw1.symm; clear hw1; subst hw2)
    | (go_at_call 31; refine (krInfQ (by assumption) _).mono ?_; rintro e wz ⟨rfl, hw1⟩; have hw2 := hw1.symm; clear hw1; subst hw2)
    | (go_at_call 37; refine (krNeg0 (by assumption) _).mono ?_; rintro e wz ⟨rfl, hw1⟩; have hw2 := hw1.symm; clear hw1; subst hw2)
    | (go_at_call 29; refine (krNought (by assumption) _).mono ?_; rintro e wz ⟨rfl, hw1⟩; have hw2 := hw1.symm; clear hw1; subst hw2)
    | (go_at_call 75; refine (krinf _ _).mono ?_; rintro e wz ⟨rfl, hw1⟩; have hw2 := hw1.symm; clear hw1; subst hw2))
  go_ret
  exact ⟨rfl, B7.out⟩

end Go.Proofs.YtoodbdjmbicaeaaGreatDoor
